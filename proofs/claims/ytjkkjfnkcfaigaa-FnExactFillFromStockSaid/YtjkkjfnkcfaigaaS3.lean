/-
  Spaces: four laws over the fewest pieces.
-/
import Derived.Test.YtjkkjfnkcfaigaaS2
set_option linter.unusedSimpArgs false
set_option linter.unusedVariables false
namespace Go.Proofs.Ytjkkjfnkcfaigaa
open Go.Ab

def V1 (S : Sp2) : List (Nat × (List AV → CR)) :=
  (38, fun args => match args with | [.ro (.ints .i64 l)] => .pure (S.sm l) (.own 0 true) [(3, .ints .i64 (S.pl l))] | _ => .no) ::
  (37, fun args => match args with | [.ro (.ints .i64 ws), .ro (.ints .i64 st), .int .i64 n] => .pure (S.dp ws st n) (.own 0 true) [(22, .intss (S.tabF ws st n))] | _ => .no) ::
  (36, fun args => match args with | [.ro (.ints .i64 l), .int .i64 n] => .pure (S.ok l n) (.own 0 true) [(3, .ints .i64 (S.fwF l n))] | _ => .no) ::
  S3 S.toSp
set_option maxRecDepth 100000 in
theorem V1_ok : TabOK Try.prog (tfind (V1 sp2)) := by
  refine tab_cons (fun args => ?_) (tab_cons (fun args => ?_) (tab_cons (fun args => ?_) (S3_ok)))
  · split
    · exact ent_pure fun h => plenty_ok _ h
    · exact ent_no
  · split
    · exact ent_pure fun h => fewest_ok _ _ _ h
    · exact ent_no
  · split
    · exact ent_pure fun h => wsFew_ok _ _ h
    · exact ent_no
theorem ask_split {l : List Int} {n : Int} (hf : askB l n = true) : (0 ≤ n ∧ n ≤ 400) ∧ l.length ≤ 6 ∧ 1 ≤ l.length := by
  simp only [askB, Bool.and_eq_true, inR_iff] at hf
  have := spB_len hf.1
  omega
theorem implCan_ok (l : List Int) (n : Int) (hl : l.length ≤ 1048576) : FC Try.prog 18 [.ro (.ints .i64 l), .int .i64 n] (.t2 (.bool (canV l n)) (.bool (askB l n))) [] := by
  refine fc_eval sp2 V1 V1_ok hT hm Try.func18 rfl (by kernel_rfl) rfl rfl ?_
  intro A S r0 fr0 hA hS hr hfr
  cbv
  (try simp only [nc] at *); subst hA hS hr hfr; simp (disch := (refine KR.mk ?_; kernel_rfl)) only [alg, obP_iff, condP_iff, retP_iff, retM_iff, ofNat_cast, nc, Int.toNat_natCast, decide_eq_true_eq, decide_eq_false_iff_not, wrap_w64, Bool.not_eq_true', Bool.not_eq_false', beq_iff_eq, beq_eq_false_iff_ne, AV.bool.injEq, AV.int.injEq, AV.t2.injEq, AV.t3.injEq, AV.own.injEq, List.cons.injEq, Prod.mk.injEq, Row.ints.injEq, RW, Row.nlen, scalar, imp_self, and_true, true_and, lexT, heldT, tailT, planT, nb, Int.toNat_zero, List.getD_cons_zero, List.getD_cons_succ, List.set_cons_zero, List.set_cons_succ, sp2, sp, sb]
  refine ⟨hl, fun (hf : askB l n = false) => by simp [hf, canV], fun (hf : askB l n = true) => ?_⟩
  have hok := ask_ok hf
  have hn := ask_split hf
  have hw := wOk_few hok
  simp only [Int.toNat_natCast, tabF_len, hw, fwF_len]
  refine ⟨hl, wOk_dp hok, by omega, by omega, by simp [canV, hf], hf.symm⟩
theorem specCan_ok (l : List Int) (n : Int) (hl : l.length ≤ 1048576) : FC Try.prog 17 [.ro (.ints .i64 l), .int .i64 n] (.t2 (.bool (canV l n)) (.bool (askB l n))) [] := by
  refine fc_eval sp2 V1 V1_ok hT hm Try.func17 rfl (by kernel_rfl) rfl rfl ?_
  intro A S r0 fr0 hA hS hr hfr
  cbv
  (try simp only [nc] at *); subst hA hS hr hfr; simp (disch := (refine KR.mk ?_; kernel_rfl)) only [alg, obP_iff, condP_iff, retP_iff, retM_iff, ofNat_cast, nc, Int.toNat_natCast, decide_eq_true_eq, decide_eq_false_iff_not, wrap_w64, Bool.not_eq_true', Bool.not_eq_false', beq_iff_eq, beq_eq_false_iff_ne, AV.bool.injEq, AV.int.injEq, AV.t2.injEq, AV.t3.injEq, AV.own.injEq, List.cons.injEq, Prod.mk.injEq, Row.ints.injEq, RW, Row.nlen, scalar, imp_self, and_true, true_and, lexT, heldT, tailT, planT, nb, Int.toNat_zero, List.getD_cons_zero, List.getD_cons_succ, List.set_cons_zero, List.set_cons_succ, sp2, sp, sb]
  refine ⟨hl, fun (hf : askB l n = false) => by simp [hf, canV], fun (hf : askB l n = true) => ?_⟩
  have hok := ask_ok hf
  have hn := ask_split hf
  simp only [fwF_len]
  refine ⟨hok, by omega, by simp [canV, hf], hf.symm⟩
theorem fw0 (l : List Int) (n : Nat) : 0 ≤ (fwF l n).getD 0 0 := by rw [fwF_get _ _ _ (Nat.zero_le _)]; simp [fwF]
theorem near_step (r : List Int) (g : Nat → Bool) (k : Nat) (h0 : g 0 = true) (hk : g k = false) : ∃ j, k = j + 1 ∧ dn g k = dn g j := by
  cases k with
  | zero => rw [h0] at hk; cases hk
  | succ j => exact ⟨j, rfl, dn_f hk⟩
theorem implNear_ok (l : List Int) (n : Int) (hl : l.length ≤ 1048576) : FC Try.prog 20 [.ro (.ints .i64 l), .int .i64 n] (.t2 (.int .i64 (nearV l n)) (.bool (askB l n))) [] := by
  refine fc_eval sp2 V1 V1_ok hT hm Try.func20 rfl (by kernel_rfl) rfl rfl ?_
  intro A S r0 fr0 hA hS hr hfr
  cbv
  refine obP.mk (by subst hA hS; exact hl) (condP.mk (fun hc => ?_) (fun hc => ?_))
  · have hf : (!(askB l n)) = true := by subst hA hS; exact hc
    rw [Bool.not_eq_true'] at hf
    (try simp only [nc] at *); subst hA hS hr hfr; simp (disch := (refine KR.mk ?_; kernel_rfl)) only [alg, obP_iff, condP_iff, retP_iff, retM_iff, ofNat_cast, nc, Int.toNat_natCast, decide_eq_true_eq, decide_eq_false_iff_not, wrap_w64, Bool.not_eq_true', Bool.not_eq_false', beq_iff_eq, beq_eq_false_iff_ne, AV.bool.injEq, AV.int.injEq, AV.t2.injEq, AV.t3.injEq, AV.own.injEq, List.cons.injEq, Prod.mk.injEq, Row.ints.injEq, RW, Row.nlen, scalar, imp_self, and_true, true_and, lexT, heldT, tailT, planT, nb, Int.toNat_zero, List.getD_cons_zero, List.getD_cons_succ, List.set_cons_zero, List.set_cons_succ, sp2, sp, sb]
    simp [hf, nearV]
  · have hf : (!(askB l n)) = false := by subst hA hS; exact hc
    rw [Bool.not_eq_false'] at hf
    have hok := ask_ok hf
    have hn := ask_split hf
    have hw := wOk_few hok
    obtain ⟨N, hN⟩ : ∃ N, N = n.toNat := ⟨_, rfl⟩
    obtain ⟨g, hg⟩ : ∃ g : Nat → Bool, g = fun m => decide (0 ≤ (fwF l N).getD m 0) := ⟨_, rfl⟩
    have hg0 : g 0 = true := by rw [hg]; exact decide_eq_true (fw0 l N)
    have hv : nearV l n = (dn g N : Nat) := by rw [nearV, if_pos hf, ← hN, hg]
    rw [← hN] at hw
    obtain ⟨rw1, hrw⟩ : ∃ r, r = fwF l N := ⟨_, rfl⟩
    have hrl : rw1.length = N + 1 := by rw [hrw, fwF_len]
    have hgm : ∀ m, g m = decide (0 ≤ rw1.getD m 0) := fun m => by rw [hg, hrw]
    refine obP.mk (by (try simp only [nc] at *); subst hA hS; simp (disch := (refine KR.mk ?_; kernel_rfl)) only [alg, obP_iff, condP_iff, retP_iff, retM_iff, ofNat_cast, nc, Int.toNat_natCast, decide_eq_true_eq, decide_eq_false_iff_not, wrap_w64, Bool.not_eq_true', Bool.not_eq_false', beq_iff_eq, beq_eq_false_iff_ne, AV.bool.injEq, AV.int.injEq, AV.t2.injEq, AV.t3.injEq, AV.own.injEq, List.cons.injEq, Prod.mk.injEq, Row.ints.injEq, RW, Row.nlen, scalar, imp_self, and_true, true_and, lexT, heldT, tailT, planT, nb, Int.toNat_zero, List.getD_cons_zero, List.getD_cons_succ, List.set_cons_zero, List.set_cons_succ, sp2, sp, sb]; exact hl) (obP.mk (by subst hA hS; exact wOk_dp hok) (obP.mk (by (try simp only [nc] at *); subst hA hS; simp (disch := (refine KR.mk ?_; kernel_rfl)) only [alg, obP_iff, condP_iff, retP_iff, retM_iff, ofNat_cast, nc, Int.toNat_natCast, decide_eq_true_eq, decide_eq_false_iff_not, wrap_w64, Bool.not_eq_true', Bool.not_eq_false', beq_iff_eq, beq_eq_false_iff_ne, AV.bool.injEq, AV.int.injEq, AV.t2.injEq, AV.t3.injEq, AV.own.injEq, List.cons.injEq, Prod.mk.injEq, Row.ints.injEq, RW, Row.nlen, scalar, imp_self, and_true, true_and, lexT, heldT, tailT, planT, nb, Int.toNat_zero, List.getD_cons_zero, List.getD_cons_succ, List.set_cons_zero, List.set_cons_succ, sp2, sp, sb]; rw [tabF_len]; omega) ?_))
    refine loop1 (fun (k : Nat) => ⟨fr 28 [(1, .int .i64 k), (6, .ro (.ints .i64 rw1))], [.dead, .dead, .dead]⟩)
      (fun k => k ≤ N ∧ dn g N = dn g k) (fun k => k) N ?_ ?_ ?_
    · (try simp only [nc] at *); subst hA hS; simp (disch := (refine KR.mk ?_; kernel_rfl)) only [alg, obP_iff, condP_iff, retP_iff, retM_iff, ofNat_cast, nc, Int.toNat_natCast, decide_eq_true_eq, decide_eq_false_iff_not, wrap_w64, Bool.not_eq_true', Bool.not_eq_false', beq_iff_eq, beq_eq_false_iff_ne, AV.bool.injEq, AV.int.injEq, AV.t2.injEq, AV.t3.injEq, AV.own.injEq, List.cons.injEq, Prod.mk.injEq, Row.ints.injEq, RW, Row.nlen, scalar, imp_self, and_true, true_and, lexT, heldT, tailT, planT, nb, Int.toNat_zero, List.getD_cons_zero, List.getD_cons_succ, List.set_cons_zero, List.set_cons_succ, sp2, sp, sb]
      simp only [Int.toNat_natCast, ← hN, hw, ← hrw]
      have hnN : n = N := by omega
      rw [hnN]
      simp [Wk_iff, fr, undefs, wkT, wkV, wkH, okid, Row.nlen, getO]
    · exact ⟨Nat.le_refl _, rfl⟩
    · intro k hR
      have k1 := hR.1
      have k2 := hR.2
      clear hR
      cbv
      (try simp only [nc] at *); subst hA hS hr hfr; simp (disch := (refine KR.mk ?_; kernel_rfl)) only [alg, obP_iff, condP_iff, retP_iff, retM_iff, ofNat_cast, nc, Int.toNat_natCast, decide_eq_true_eq, decide_eq_false_iff_not, wrap_w64, Bool.not_eq_true', Bool.not_eq_false', beq_iff_eq, beq_eq_false_iff_ne, AV.bool.injEq, AV.int.injEq, AV.t2.injEq, AV.t3.injEq, AV.own.injEq, List.cons.injEq, Prod.mk.injEq, Row.ints.injEq, RW, Row.nlen, scalar, imp_self, and_true, true_and, lexT, heldT, tailT, planT, nb, Int.toNat_zero, List.getD_cons_zero, List.getD_cons_succ, List.set_cons_zero, List.set_cons_succ, sp2, sp, sb]
      refine ⟨by omega, fun hk => ?_, fun hk => ?_⟩
      · have hgk : g k = false := by rw [hgm]; exact decide_eq_false (by omega)
        obtain ⟨j, hj, hd⟩ := near_step rw1 g k hg0 hgk
        have wj : w64 ((k : Int) - 1) = (j : Int) := by rw [w64_id (by omega)]; omega
        refine ⟨j, ?_, ⟨by omega, by rw [k2, hd]⟩, by omega⟩
        simp only [wj]
        simp [Wk_iff, fr, undefs, wkT, wkV, wkH, okid, Row.nlen, getO]
      · have hgk : g k = true := by rw [hgm]; exact decide_eq_true (by omega)
        rw [hv, k2, dn_t hgk, hf]
        exact ⟨rfl, rfl⟩
theorem specNear_ok (l : List Int) (n : Int) (hl : l.length ≤ 1048576) : FC Try.prog 19 [.ro (.ints .i64 l), .int .i64 n] (.t2 (.int .i64 (nearV l n)) (.bool (askB l n))) [] := by
  refine fc_eval sp2 V1 V1_ok hT hm Try.func19 rfl (by kernel_rfl) rfl rfl ?_
  intro A S r0 fr0 hA hS hr hfr
  cbv
  refine obP.mk (by subst hA hS; exact hl) (condP.mk (fun hc => ?_) (fun hc => ?_))
  · have hf : (!(askB l n)) = true := by subst hA hS; exact hc
    rw [Bool.not_eq_true'] at hf
    (try simp only [nc] at *); subst hA hS hr hfr; simp (disch := (refine KR.mk ?_; kernel_rfl)) only [alg, obP_iff, condP_iff, retP_iff, retM_iff, ofNat_cast, nc, Int.toNat_natCast, decide_eq_true_eq, decide_eq_false_iff_not, wrap_w64, Bool.not_eq_true', Bool.not_eq_false', beq_iff_eq, beq_eq_false_iff_ne, AV.bool.injEq, AV.int.injEq, AV.t2.injEq, AV.t3.injEq, AV.own.injEq, List.cons.injEq, Prod.mk.injEq, Row.ints.injEq, RW, Row.nlen, scalar, imp_self, and_true, true_and, lexT, heldT, tailT, planT, nb, Int.toNat_zero, List.getD_cons_zero, List.getD_cons_succ, List.set_cons_zero, List.set_cons_succ, sp2, sp, sb]
    simp [hf, nearV]
  · have hf : (!(askB l n)) = false := by subst hA hS; exact hc
    rw [Bool.not_eq_false'] at hf
    have hok := ask_ok hf
    have hn := ask_split hf
    obtain ⟨N, hN⟩ : ∃ N, N = n.toNat := ⟨_, rfl⟩
    obtain ⟨g, hg⟩ : ∃ g : Nat → Bool, g = fun m => decide (0 ≤ (fwF l N).getD m 0) := ⟨_, rfl⟩
    have hg0 : g 0 = true := by rw [hg]; exact decide_eq_true (fw0 l N)
    have hv : nearV l n = (dn g N : Nat) := by rw [nearV, if_pos hf, ← hN, hg]
    obtain ⟨rw1, hrw⟩ : ∃ r, r = fwF l N := ⟨_, rfl⟩
    have hrl : rw1.length = N + 1 := by rw [hrw, fwF_len]
    have hgm : ∀ m, g m = decide (0 ≤ rw1.getD m 0) := fun m => by rw [hg, hrw]
    refine obP.mk (by subst hA hS; exact hok) ?_
    refine loop1 (fun (k : Nat) => ⟨fr 22 [(1, .int .i64 k), (6, .own 1 true)], [.dead, .row 3 (.ints .i64 rw1)]⟩)
      (fun k => k ≤ N ∧ dn g N = dn g k) (fun k => k) N ?_ ?_ ?_
    · (try simp only [nc] at *); subst hA hS; simp (disch := (refine KR.mk ?_; kernel_rfl)) only [alg, obP_iff, condP_iff, retP_iff, retM_iff, ofNat_cast, nc, Int.toNat_natCast, decide_eq_true_eq, decide_eq_false_iff_not, wrap_w64, Bool.not_eq_true', Bool.not_eq_false', beq_iff_eq, beq_eq_false_iff_ne, AV.bool.injEq, AV.int.injEq, AV.t2.injEq, AV.t3.injEq, AV.own.injEq, List.cons.injEq, Prod.mk.injEq, Row.ints.injEq, RW, Row.nlen, scalar, imp_self, and_true, true_and, lexT, heldT, tailT, planT, nb, Int.toNat_zero, List.getD_cons_zero, List.getD_cons_succ, List.set_cons_zero, List.set_cons_succ, sp2, sp, sb]
      simp only [Int.toNat_natCast, ← hN, ← hrw]
      have hnN : n = N := by omega
      rw [hnN]
      simp [Wk_iff, fr, undefs, wkT, wkV, wkH, okid, Row.nlen, getO]
    · exact ⟨Nat.le_refl _, rfl⟩
    · intro k hR
      have k1 := hR.1
      have k2 := hR.2
      clear hR
      cbv
      (try simp only [nc] at *); subst hA hS hr hfr; simp (disch := (refine KR.mk ?_; kernel_rfl)) only [alg, obP_iff, condP_iff, retP_iff, retM_iff, ofNat_cast, nc, Int.toNat_natCast, decide_eq_true_eq, decide_eq_false_iff_not, wrap_w64, Bool.not_eq_true', Bool.not_eq_false', beq_iff_eq, beq_eq_false_iff_ne, AV.bool.injEq, AV.int.injEq, AV.t2.injEq, AV.t3.injEq, AV.own.injEq, List.cons.injEq, Prod.mk.injEq, Row.ints.injEq, RW, Row.nlen, scalar, imp_self, and_true, true_and, lexT, heldT, tailT, planT, nb, Int.toNat_zero, List.getD_cons_zero, List.getD_cons_succ, List.set_cons_zero, List.set_cons_succ, sp2, sp, sb]
      refine ⟨by omega, fun hk => ?_, fun hk => ?_⟩
      · have hgk : g k = false := by rw [hgm]; exact decide_eq_false (by omega)
        obtain ⟨j, hj, hd⟩ := near_step rw1 g k hg0 hgk
        have wj : w64 ((k : Int) - 1) = (j : Int) := by rw [w64_id (by omega)]; omega
        refine ⟨j, ?_, ⟨by omega, by rw [k2, hd]⟩, by omega⟩
        simp only [wj]
        simp [Wk_iff, fr, undefs, wkT, wkV, wkH, okid, Row.nlen, getO]
      · have hgk : g k = true := by rw [hgm]; exact decide_eq_true (by omega)
        rw [hv, k2, dn_t hgk, hf]
        exact ⟨rfl, rfl⟩
theorem thO_at {l : List Int} {n : Int} (hf : askB l n = true) : thO l n = (List.range (n.toNat / (l.getD 0 0).toNat + 1)).find? (thC l n.toNat) := by rw [thO, if_pos hf]
theorem ask_w {l : List Int} {n : Int} (hf : askB l n = true) : 1 ≤ l.getD 0 0 ∧ l.getD 0 0 ≤ 54 := by
  have hl := ask_split hf
  simp only [askB, Bool.and_eq_true] at hf
  exact spB_at hf.1 (by omega)
theorem implThin_ok (l : List Int) (n : Int) (hl : l.length ≤ 1048576) : FC Try.prog 22 [.ro (.ints .i64 l), .int .i64 n] (.t2 (.int .i64 (thV l n)) (.bool (thB l n))) [] := by
  refine fc_eval sp2 V1 V1_ok hT hm Try.func22 rfl (by kernel_rfl) rfl rfl ?_
  intro A S r0 fr0 hA hS hr hfr
  cbv
  refine obP.mk (by subst hA hS; exact hl) (condP.mk (fun hc => ?_) (fun hc => ?_))
  · have hf : (!(askB l n)) = true := by subst hA hS; exact hc
    rw [Bool.not_eq_true'] at hf
    (try simp only [nc] at *); subst hA hS hr hfr; simp (disch := (refine KR.mk ?_; kernel_rfl)) only [alg, obP_iff, condP_iff, retP_iff, retM_iff, ofNat_cast, nc, Int.toNat_natCast, decide_eq_true_eq, decide_eq_false_iff_not, wrap_w64, Bool.not_eq_true', Bool.not_eq_false', beq_iff_eq, beq_eq_false_iff_ne, AV.bool.injEq, AV.int.injEq, AV.t2.injEq, AV.t3.injEq, AV.own.injEq, List.cons.injEq, Prod.mk.injEq, Row.ints.injEq, RW, Row.nlen, scalar, imp_self, and_true, true_and, lexT, heldT, tailT, planT, nb, Int.toNat_zero, List.getD_cons_zero, List.getD_cons_succ, List.set_cons_zero, List.set_cons_succ, sp2, sp, sb]
    simp [hf, thV, thB, thO]
  · have hf : (!(askB l n)) = false := by subst hA hS; exact hc
    rw [Bool.not_eq_false'] at hf
    have hok := drop_ok (ask_ok hf)
    have hn := ask_split hf
    have hw := wOk_few hok
    have hw0 := ask_w hf
    have hthO := thO_at hf
    have hsub : List.drop (Int.toNat 1) (List.take l.length l) = l.drop 1 := by simp
    obtain ⟨N, hN⟩ : ∃ N, N = n.toNat := ⟨_, rfl⟩
    obtain ⟨w, hww⟩ : ∃ w, w = l.getD 0 0 := ⟨_, rfl⟩
    obtain ⟨W, hW⟩ : ∃ W, W = w.toNat := ⟨_, rfl⟩
    rw [← hww] at hw0
    rw [← hN, ← hww, ← hW] at hthO
    obtain ⟨C, hC⟩ : ∃ C, C = thC l N := ⟨_, rfl⟩
    rw [← hC] at hthO
    rw [← hN] at hw
    obtain ⟨rw1, hrw⟩ : ∃ r, r = fwF (l.drop 1) N := ⟨_, rfl⟩
    have hrl : rw1.length = N + 1 := by rw [hrw, fwF_len]
    have hCm : ∀ m, C m = decide (0 ≤ rw1.getD (N - m * W) 0) := fun m => by rw [hC, thC, ← hrw, ← hww, ← hW]
    obtain ⟨D, hD⟩ : ∃ D, D = N / W := ⟨_, rfl⟩
    rw [← hD] at hthO
    have hDle : ∀ m, m ≤ D ↔ m * W ≤ N := fun m => by rw [hD]; exact Nat.le_div_iff_mul_le (by omega)
    have hDN : D ≤ N := by rw [hD]; exact Nat.div_le_self _ _
    have hwW : w = W := by omega
    have H1 := Hd.mk hwW
    refine obP.mk (by (try simp only [nc] at *); subst hA hS; simp (disch := (refine KR.mk ?_; kernel_rfl)) only [alg, obP_iff, condP_iff, retP_iff, retM_iff, ofNat_cast, nc, Int.toNat_natCast, decide_eq_true_eq, decide_eq_false_iff_not, wrap_w64, Bool.not_eq_true', Bool.not_eq_false', beq_iff_eq, beq_eq_false_iff_ne, AV.bool.injEq, AV.int.injEq, AV.t2.injEq, AV.t3.injEq, AV.own.injEq, List.cons.injEq, Prod.mk.injEq, Row.ints.injEq, RW, Row.nlen, scalar, imp_self, and_true, true_and, lexT, heldT, tailT, planT, nb, Int.toNat_zero, List.getD_cons_zero, List.getD_cons_succ, List.set_cons_zero, List.set_cons_succ, sp2, sp, sb]; try omega) (obP.mk (by (try simp only [nc] at *); subst hA hS; simp (disch := (refine KR.mk ?_; kernel_rfl)) only [alg, obP_iff, condP_iff, retP_iff, retM_iff, ofNat_cast, nc, Int.toNat_natCast, decide_eq_true_eq, decide_eq_false_iff_not, wrap_w64, Bool.not_eq_true', Bool.not_eq_false', beq_iff_eq, beq_eq_false_iff_ne, AV.bool.injEq, AV.int.injEq, AV.t2.injEq, AV.t3.injEq, AV.own.injEq, List.cons.injEq, Prod.mk.injEq, Row.ints.injEq, RW, Row.nlen, scalar, imp_self, and_true, true_and, lexT, heldT, tailT, planT, nb, Int.toNat_zero, List.getD_cons_zero, List.getD_cons_succ, List.set_cons_zero, List.set_cons_succ, sp2, sp, sb]; omega) (obP.mk (by (try simp only [nc] at *); subst hA hS; simp (disch := (refine KR.mk ?_; kernel_rfl)) only [alg, obP_iff, condP_iff, retP_iff, retM_iff, ofNat_cast, nc, Int.toNat_natCast, decide_eq_true_eq, decide_eq_false_iff_not, wrap_w64, Bool.not_eq_true', Bool.not_eq_false', beq_iff_eq, beq_eq_false_iff_ne, AV.bool.injEq, AV.int.injEq, AV.t2.injEq, AV.t3.injEq, AV.own.injEq, List.cons.injEq, Prod.mk.injEq, Row.ints.injEq, RW, Row.nlen, scalar, imp_self, and_true, true_and, lexT, heldT, tailT, planT, nb, Int.toNat_zero, List.getD_cons_zero, List.getD_cons_succ, List.set_cons_zero, List.set_cons_succ, sp2, sp, sb]; simp only [hsub, List.length_drop]; omega) (obP.mk (by (try simp only [nc] at *); subst hA hS; simp (disch := (refine KR.mk ?_; kernel_rfl)) only [alg, obP_iff, condP_iff, retP_iff, retM_iff, ofNat_cast, nc, Int.toNat_natCast, decide_eq_true_eq, decide_eq_false_iff_not, wrap_w64, Bool.not_eq_true', Bool.not_eq_false', beq_iff_eq, beq_eq_false_iff_ne, AV.bool.injEq, AV.int.injEq, AV.t2.injEq, AV.t3.injEq, AV.own.injEq, List.cons.injEq, Prod.mk.injEq, Row.ints.injEq, RW, Row.nlen, scalar, imp_self, and_true, true_and, lexT, heldT, tailT, planT, nb, Int.toNat_zero, List.getD_cons_zero, List.getD_cons_succ, List.set_cons_zero, List.set_cons_succ, sp2, sp, sb]; simp only [hsub]; exact wOk_dp hok) (obP.mk (by (try simp only [nc] at *); subst hA hS; simp (disch := (refine KR.mk ?_; kernel_rfl)) only [alg, obP_iff, condP_iff, retP_iff, retM_iff, ofNat_cast, nc, Int.toNat_natCast, decide_eq_true_eq, decide_eq_false_iff_not, wrap_w64, Bool.not_eq_true', Bool.not_eq_false', beq_iff_eq, beq_eq_false_iff_ne, AV.bool.injEq, AV.int.injEq, AV.t2.injEq, AV.t3.injEq, AV.own.injEq, List.cons.injEq, Prod.mk.injEq, Row.ints.injEq, RW, Row.nlen, scalar, imp_self, and_true, true_and, lexT, heldT, tailT, planT, nb, Int.toNat_zero, List.getD_cons_zero, List.getD_cons_succ, List.set_cons_zero, List.set_cons_succ, sp2, sp, sb]; simp only [hsub, tabF_len]; omega) ?_))))
    refine loop1 (fun (m : Nat) => ⟨fr 45 [(0, .ro (.ints .i64 l)), (1, .int .i64 n), (7, .ro (.ints .i64 rw1)), (8, .int .i64 m)], [.dead, .dead, .dead]⟩)
      (fun m => m ≤ D + 1 ∧ (List.range m).find? C = none) (fun m => D + 1 - m) 0 ?_ ?_ ?_
    · (try simp only [nc] at *); subst hA hS; simp (disch := (refine KR.mk ?_; kernel_rfl)) only [alg, obP_iff, condP_iff, retP_iff, retM_iff, ofNat_cast, nc, Int.toNat_natCast, decide_eq_true_eq, decide_eq_false_iff_not, wrap_w64, Bool.not_eq_true', Bool.not_eq_false', beq_iff_eq, beq_eq_false_iff_ne, AV.bool.injEq, AV.int.injEq, AV.t2.injEq, AV.t3.injEq, AV.own.injEq, List.cons.injEq, Prod.mk.injEq, Row.ints.injEq, RW, Row.nlen, scalar, imp_self, and_true, true_and, lexT, heldT, tailT, planT, nb, Int.toNat_zero, List.getD_cons_zero, List.getD_cons_succ, List.set_cons_zero, List.set_cons_succ, sp2, sp, sb]
      simp only [hsub, Int.toNat_natCast, ← hN, hw, ← hrw]
      simp [Wk_iff, fr, undefs, wkT, wkV, wkH, okid, Row.nlen, getO]
    · exact ⟨by omega, rfl⟩
    · intro m hR
      have m1 := hR.1
      have m2 := hR.2
      clear hR
      cbv
      have hwW := H1.h
      (try simp only [nc] at hwW)
      (try simp only [nc] at *); subst hA hS hr hfr; simp (disch := (refine KR.mk ?_; kernel_rfl)) only [alg, obP_iff, condP_iff, retP_iff, retM_iff, ofNat_cast, nc, Int.toNat_natCast, decide_eq_true_eq, decide_eq_false_iff_not, wrap_w64, Bool.not_eq_true', Bool.not_eq_false', beq_iff_eq, beq_eq_false_iff_ne, AV.bool.injEq, AV.int.injEq, AV.t2.injEq, AV.t3.injEq, AV.own.injEq, List.cons.injEq, Prod.mk.injEq, Row.ints.injEq, RW, Row.nlen, scalar, imp_self, and_true, true_and, lexT, heldT, tailT, planT, nb, Int.toNat_zero, List.getD_cons_zero, List.getD_cons_succ, List.set_cons_zero, List.set_cons_succ, sp2, sp, sb]
      have hmW : (m : Int) * w = ((m * W : Nat) : Int) := by rw [hwW]; simp
      have hmW2 : m * W ≤ 402 * 54 := Nat.mul_le_mul (by omega) (by omega)
      have w1 : w64 ((m : Int) * w) = ((m * W : Nat) : Int) := by rw [hmW, w64_id (by omega)]
      have hd := hDle m
      have wm : w64 ((m : Int) + 1) = ((m + 1 : Nat) : Int) := by rw [w64_id (by omega)]; omega
      have hnN : n = N := by omega
      simp only [← hww, w1]
      obtain ⟨X, hX⟩ : ∃ X, X = m * W := ⟨_, rfl⟩
      rw [← hX] at hd
      simp only [← hX]
      refine ⟨by omega, fun hle => ?_, fun hle => ?_⟩
      · have w2 : w64 (n - (X : Int)) = ((N - X : Nat) : Int) := by rw [w64_id (by omega)]; omega
        simp only [w2, Int.toNat_natCast]
        refine ⟨by omega, by omega, fun hp => ?_, fun hp => ?_⟩
        · have hCt : C m = true := by rw [hCm, ← hX]; exact decide_eq_true hp
          have hs : thO l n = some m := by
            rw [hthO]
            have := find_yes m2 hCt (D - m)
            have e : m + 1 + (D - m) = D + 1 := by omega
            rw [e] at this; exact this
          simp [thV, thB, hs]
        · have hCt : C m = false := by rw [hCm, ← hX]; exact decide_eq_false hp
          refine ⟨m + 1, ?_, ⟨by omega, find_no m2 hCt⟩, by omega⟩
          simp only [wm]
          simp [Wk_iff, fr, undefs, wkT, wkV, wkH, okid, Row.nlen, getO]
      · have e : m = D + 1 := by omega
        rw [e] at m2
        simp [thV, thB, hthO, m2]
theorem specThin_ok (l : List Int) (n : Int) (hl : l.length ≤ 1048576) : FC Try.prog 21 [.ro (.ints .i64 l), .int .i64 n] (.t2 (.int .i64 (thV l n)) (.bool (thB l n))) [] := by
  refine fc_eval sp2 V1 V1_ok hT hm Try.func21 rfl (by kernel_rfl) rfl rfl ?_
  intro A S r0 fr0 hA hS hr hfr
  cbv
  refine obP.mk (by subst hA hS; exact hl) (condP.mk (fun hc => ?_) (fun hc => ?_))
  · have hf : (!(askB l n)) = true := by subst hA hS; exact hc
    rw [Bool.not_eq_true'] at hf
    (try simp only [nc] at *); subst hA hS hr hfr; simp (disch := (refine KR.mk ?_; kernel_rfl)) only [alg, obP_iff, condP_iff, retP_iff, retM_iff, ofNat_cast, nc, Int.toNat_natCast, decide_eq_true_eq, decide_eq_false_iff_not, wrap_w64, Bool.not_eq_true', Bool.not_eq_false', beq_iff_eq, beq_eq_false_iff_ne, AV.bool.injEq, AV.int.injEq, AV.t2.injEq, AV.t3.injEq, AV.own.injEq, List.cons.injEq, Prod.mk.injEq, Row.ints.injEq, RW, Row.nlen, scalar, imp_self, and_true, true_and, lexT, heldT, tailT, planT, nb, Int.toNat_zero, List.getD_cons_zero, List.getD_cons_succ, List.set_cons_zero, List.set_cons_succ, sp2, sp, sb]
    simp [hf, thV, thB, thO]
  · have hf : (!(askB l n)) = false := by subst hA hS; exact hc
    rw [Bool.not_eq_false'] at hf
    have hok := drop_ok (ask_ok hf)
    have hn := ask_split hf
    have hw := wOk_few hok
    have hw0 := ask_w hf
    have hthO := thO_at hf
    have hsub : List.drop (Int.toNat 1) (List.take l.length l) = l.drop 1 := by simp
    obtain ⟨N, hN⟩ : ∃ N, N = n.toNat := ⟨_, rfl⟩
    obtain ⟨w, hww⟩ : ∃ w, w = l.getD 0 0 := ⟨_, rfl⟩
    obtain ⟨W, hW⟩ : ∃ W, W = w.toNat := ⟨_, rfl⟩
    rw [← hww] at hw0
    rw [← hN, ← hww, ← hW] at hthO
    obtain ⟨C, hC⟩ : ∃ C, C = thC l N := ⟨_, rfl⟩
    rw [← hC] at hthO
    rw [← hN] at hw
    obtain ⟨rw1, hrw⟩ : ∃ r, r = fwF (l.drop 1) N := ⟨_, rfl⟩
    have hrl : rw1.length = N + 1 := by rw [hrw, fwF_len]
    have hCm : ∀ m, C m = decide (0 ≤ rw1.getD (N - m * W) 0) := fun m => by rw [hC, thC, ← hrw, ← hww, ← hW]
    obtain ⟨D, hD⟩ : ∃ D, D = N / W := ⟨_, rfl⟩
    rw [← hD] at hthO
    have hDle : ∀ m, m ≤ D ↔ m * W ≤ N := fun m => by rw [hD]; exact Nat.le_div_iff_mul_le (by omega)
    have hDN : D ≤ N := by rw [hD]; exact Nat.div_le_self _ _
    have hwW : w = W := by omega
    have H1 := Hd.mk hwW
    refine obP.mk (by (try simp only [nc] at *); subst hA hS; simp (disch := (refine KR.mk ?_; kernel_rfl)) only [alg, obP_iff, condP_iff, retP_iff, retM_iff, ofNat_cast, nc, Int.toNat_natCast, decide_eq_true_eq, decide_eq_false_iff_not, wrap_w64, Bool.not_eq_true', Bool.not_eq_false', beq_iff_eq, beq_eq_false_iff_ne, AV.bool.injEq, AV.int.injEq, AV.t2.injEq, AV.t3.injEq, AV.own.injEq, List.cons.injEq, Prod.mk.injEq, Row.ints.injEq, RW, Row.nlen, scalar, imp_self, and_true, true_and, lexT, heldT, tailT, planT, nb, Int.toNat_zero, List.getD_cons_zero, List.getD_cons_succ, List.set_cons_zero, List.set_cons_succ, sp2, sp, sb]; try omega) (obP.mk (by (try simp only [nc] at *); subst hA hS; simp (disch := (refine KR.mk ?_; kernel_rfl)) only [alg, obP_iff, condP_iff, retP_iff, retM_iff, ofNat_cast, nc, Int.toNat_natCast, decide_eq_true_eq, decide_eq_false_iff_not, wrap_w64, Bool.not_eq_true', Bool.not_eq_false', beq_iff_eq, beq_eq_false_iff_ne, AV.bool.injEq, AV.int.injEq, AV.t2.injEq, AV.t3.injEq, AV.own.injEq, List.cons.injEq, Prod.mk.injEq, Row.ints.injEq, RW, Row.nlen, scalar, imp_self, and_true, true_and, lexT, heldT, tailT, planT, nb, Int.toNat_zero, List.getD_cons_zero, List.getD_cons_succ, List.set_cons_zero, List.set_cons_succ, sp2, sp, sb]; omega) (obP.mk (by (try simp only [nc] at *); subst hA hS; simp (disch := (refine KR.mk ?_; kernel_rfl)) only [alg, obP_iff, condP_iff, retP_iff, retM_iff, ofNat_cast, nc, Int.toNat_natCast, decide_eq_true_eq, decide_eq_false_iff_not, wrap_w64, Bool.not_eq_true', Bool.not_eq_false', beq_iff_eq, beq_eq_false_iff_ne, AV.bool.injEq, AV.int.injEq, AV.t2.injEq, AV.t3.injEq, AV.own.injEq, List.cons.injEq, Prod.mk.injEq, Row.ints.injEq, RW, Row.nlen, scalar, imp_self, and_true, true_and, lexT, heldT, tailT, planT, nb, Int.toNat_zero, List.getD_cons_zero, List.getD_cons_succ, List.set_cons_zero, List.set_cons_succ, sp2, sp, sb]; simp only [hsub]; exact hok) ?_))
    refine loop1 (fun (m : Nat) => ⟨fr 37 [(0, .ro (.ints .i64 l)), (1, .int .i64 n), (6, .own 1 true), (7, .int .i64 m)], [.dead, .row 3 (.ints .i64 rw1)]⟩)
      (fun m => m ≤ D + 1 ∧ (List.range m).find? C = none) (fun m => D + 1 - m) 0 ?_ ?_ ?_
    · (try simp only [nc] at *); subst hA hS; simp (disch := (refine KR.mk ?_; kernel_rfl)) only [alg, obP_iff, condP_iff, retP_iff, retM_iff, ofNat_cast, nc, Int.toNat_natCast, decide_eq_true_eq, decide_eq_false_iff_not, wrap_w64, Bool.not_eq_true', Bool.not_eq_false', beq_iff_eq, beq_eq_false_iff_ne, AV.bool.injEq, AV.int.injEq, AV.t2.injEq, AV.t3.injEq, AV.own.injEq, List.cons.injEq, Prod.mk.injEq, Row.ints.injEq, RW, Row.nlen, scalar, imp_self, and_true, true_and, lexT, heldT, tailT, planT, nb, Int.toNat_zero, List.getD_cons_zero, List.getD_cons_succ, List.set_cons_zero, List.set_cons_succ, sp2, sp, sb]
      simp only [hsub, Int.toNat_natCast, ← hN, hw, ← hrw]
      simp [Wk_iff, fr, undefs, wkT, wkV, wkH, okid, Row.nlen, getO]
    · exact ⟨by omega, rfl⟩
    · intro m hR
      have m1 := hR.1
      have m2 := hR.2
      clear hR
      cbv
      have hwW := H1.h
      (try simp only [nc] at hwW)
      (try simp only [nc] at *); subst hA hS hr hfr; simp (disch := (refine KR.mk ?_; kernel_rfl)) only [alg, obP_iff, condP_iff, retP_iff, retM_iff, ofNat_cast, nc, Int.toNat_natCast, decide_eq_true_eq, decide_eq_false_iff_not, wrap_w64, Bool.not_eq_true', Bool.not_eq_false', beq_iff_eq, beq_eq_false_iff_ne, AV.bool.injEq, AV.int.injEq, AV.t2.injEq, AV.t3.injEq, AV.own.injEq, List.cons.injEq, Prod.mk.injEq, Row.ints.injEq, RW, Row.nlen, scalar, imp_self, and_true, true_and, lexT, heldT, tailT, planT, nb, Int.toNat_zero, List.getD_cons_zero, List.getD_cons_succ, List.set_cons_zero, List.set_cons_succ, sp2, sp, sb]
      have hmW : (m : Int) * w = ((m * W : Nat) : Int) := by rw [hwW]; simp
      have hmW2 : m * W ≤ 402 * 54 := Nat.mul_le_mul (by omega) (by omega)
      have w1 : w64 ((m : Int) * w) = ((m * W : Nat) : Int) := by rw [hmW, w64_id (by omega)]
      have hd := hDle m
      have wm : w64 ((m : Int) + 1) = ((m + 1 : Nat) : Int) := by rw [w64_id (by omega)]; omega
      have hnN : n = N := by omega
      simp only [← hww, w1]
      obtain ⟨X, hX⟩ : ∃ X, X = m * W := ⟨_, rfl⟩
      rw [← hX] at hd
      simp only [← hX]
      refine ⟨by omega, fun hle => ?_, fun hle => ?_⟩
      · have w2 : w64 (n - (X : Int)) = ((N - X : Nat) : Int) := by rw [w64_id (by omega)]; omega
        simp only [w2, Int.toNat_natCast]
        refine ⟨by omega, by omega, fun hp => ?_, fun hp => ?_⟩
        · have hCt : C m = true := by rw [hCm, ← hX]; exact decide_eq_true hp
          have hs : thO l n = some m := by
            rw [hthO]
            have := find_yes m2 hCt (D - m)
            have e : m + 1 + (D - m) = D + 1 := by omega
            rw [e] at this; exact this
          simp [thV, thB, hs]
        · have hCt : C m = false := by rw [hCm, ← hX]; exact decide_eq_false hp
          refine ⟨m + 1, ?_, ⟨by omega, find_no m2 hCt⟩, by omega⟩
          simp only [wm]
          simp [Wk_iff, fr, undefs, wkT, wkV, wkH, okid, Row.nlen, getO]
      · have e : m = D + 1 := by omega
        rw [e] at m2
        simp [thV, thB, hthO, m2]
theorem implMis_ok (l : List Int) (n : Int) (hl : l.length ≤ 1048576) : FC Try.prog 24 [.ro (.ints .i64 l), .int .i64 n] (.t2 (.own 0 true) (.bool (askB l n))) [(3, .ints .i64 (misL l n))] := by
  refine fc_eval sp2 V1 V1_ok hT hm Try.func24 rfl (by kernel_rfl) rfl rfl ?_
  intro A S r0 fr0 hA hS hr hfr
  cbv
  refine obP.mk (by subst hA hS; exact hl) (condP.mk (fun hc => ?_) (fun hc => ?_))
  · have hf : (!(askB l n)) = true := by subst hA hS; exact hc
    rw [Bool.not_eq_true'] at hf
    (try simp only [nc] at *); subst hA hS hr hfr; simp (disch := (refine KR.mk ?_; kernel_rfl)) only [alg, obP_iff, condP_iff, retP_iff, retM_iff, ofNat_cast, nc, Int.toNat_natCast, decide_eq_true_eq, decide_eq_false_iff_not, wrap_w64, Bool.not_eq_true', Bool.not_eq_false', beq_iff_eq, beq_eq_false_iff_ne, AV.bool.injEq, AV.int.injEq, AV.t2.injEq, AV.t3.injEq, AV.own.injEq, List.cons.injEq, Prod.mk.injEq, Row.ints.injEq, RW, Row.nlen, scalar, imp_self, and_true, true_and, lexT, heldT, tailT, planT, nb, Int.toNat_zero, List.getD_cons_zero, List.getD_cons_succ, List.set_cons_zero, List.set_cons_succ, sp2, sp, sb]
    simp [hf, misL]
  · have hf : (!(askB l n)) = false := by subst hA hS; exact hc
    rw [Bool.not_eq_false'] at hf
    have hok := ask_ok hf
    have hn := ask_split hf
    have hw := wOk_few hok
    obtain ⟨N, hN⟩ : ∃ N, N = n.toNat := ⟨_, rfl⟩
    obtain ⟨rw1, hrw⟩ : ∃ r, r = fwF l N := ⟨_, rfl⟩
    have hrl : rw1.length = N + 1 := by rw [hrw, fwF_len]
    rw [← hN] at hw
    obtain ⟨L, hL⟩ : ∃ L : Int, L = rw1.length := ⟨_, rfl⟩
    have hv : misL l n = misF rw1 (N + 1) := by rw [misL, if_pos hf, ← hN, hrw]
    refine obP.mk (by (try simp only [nc] at *); subst hA hS; simp (disch := (refine KR.mk ?_; kernel_rfl)) only [alg, obP_iff, condP_iff, retP_iff, retM_iff, ofNat_cast, nc, Int.toNat_natCast, decide_eq_true_eq, decide_eq_false_iff_not, wrap_w64, Bool.not_eq_true', Bool.not_eq_false', beq_iff_eq, beq_eq_false_iff_ne, AV.bool.injEq, AV.int.injEq, AV.t2.injEq, AV.t3.injEq, AV.own.injEq, List.cons.injEq, Prod.mk.injEq, Row.ints.injEq, RW, Row.nlen, scalar, imp_self, and_true, true_and, lexT, heldT, tailT, planT, nb, Int.toNat_zero, List.getD_cons_zero, List.getD_cons_succ, List.set_cons_zero, List.set_cons_succ, sp2, sp, sb]; exact hl) (obP.mk (by subst hA hS; exact wOk_dp hok) (obP.mk (by (try simp only [nc] at *); subst hA hS; simp (disch := (refine KR.mk ?_; kernel_rfl)) only [alg, obP_iff, condP_iff, retP_iff, retM_iff, ofNat_cast, nc, Int.toNat_natCast, decide_eq_true_eq, decide_eq_false_iff_not, wrap_w64, Bool.not_eq_true', Bool.not_eq_false', beq_iff_eq, beq_eq_false_iff_ne, AV.bool.injEq, AV.int.injEq, AV.t2.injEq, AV.t3.injEq, AV.own.injEq, List.cons.injEq, Prod.mk.injEq, Row.ints.injEq, RW, Row.nlen, scalar, imp_self, and_true, true_and, lexT, heldT, tailT, planT, nb, Int.toNat_zero, List.getD_cons_zero, List.getD_cons_succ, List.set_cons_zero, List.set_cons_succ, sp2, sp, sb]; rw [tabF_len]; omega) ?_))
    refine loop2 (fun (i : Nat) (out : List Int) => ⟨fr 38 [(6, .own 1 false), (23, .ro (.ints .i64 rw1)), (24, .int .i64 L), (25, .int .i64 i)], [.dead, .row 3 (.ints .i64 out), .dead, .dead]⟩)
      (fun i out => i ≤ N + 1 ∧ out = misF rw1 i) (fun i _ => N + 1 - i) 0 [] ?_ ?_ ?_
    · (try simp only [nc] at *); subst hA hS; simp (disch := (refine KR.mk ?_; kernel_rfl)) only [alg, obP_iff, condP_iff, retP_iff, retM_iff, ofNat_cast, nc, Int.toNat_natCast, decide_eq_true_eq, decide_eq_false_iff_not, wrap_w64, Bool.not_eq_true', Bool.not_eq_false', beq_iff_eq, beq_eq_false_iff_ne, AV.bool.injEq, AV.int.injEq, AV.t2.injEq, AV.t3.injEq, AV.own.injEq, List.cons.injEq, Prod.mk.injEq, Row.ints.injEq, RW, Row.nlen, scalar, imp_self, and_true, true_and, lexT, heldT, tailT, planT, nb, Int.toNat_zero, List.getD_cons_zero, List.getD_cons_succ, List.set_cons_zero, List.set_cons_succ, sp2, sp, sb]
      simp only [Int.toNat_natCast, ← hN, hw, ← hrw, ← hL]
      simp [Wk_iff, fr, undefs, wkT, wkV, wkH, okid, Row.nlen, getO]
    · exact ⟨by omega, rfl⟩
    · intro i out hR
      have i1 := hR.1
      have ho := hR.2
      have hol := misF_len rw1 i
      rw [← ho] at hol
      clear hR
      cbv
      (try simp only [nc] at *); subst hA hS hr hfr; simp (disch := (refine KR.mk ?_; kernel_rfl)) only [alg, obP_iff, condP_iff, retP_iff, retM_iff, ofNat_cast, nc, Int.toNat_natCast, decide_eq_true_eq, decide_eq_false_iff_not, wrap_w64, Bool.not_eq_true', Bool.not_eq_false', beq_iff_eq, beq_eq_false_iff_ne, AV.bool.injEq, AV.int.injEq, AV.t2.injEq, AV.t3.injEq, AV.own.injEq, List.cons.injEq, Prod.mk.injEq, Row.ints.injEq, RW, Row.nlen, scalar, imp_self, and_true, true_and, lexT, heldT, tailT, planT, nb, Int.toNat_zero, List.getD_cons_zero, List.getD_cons_succ, List.set_cons_zero, List.set_cons_succ, sp2, sp, sb]
      have wi : w64 ((i : Int) + 1) = ((i + 1 : Nat) : Int) := by rw [w64_id (by omega)]; omega
      have hsu := misF_succ rw1 i
      rw [← ho] at hsu
      refine ⟨fun hi => ⟨by omega, fun hp => ⟨by omega, by simp, i + 1, out ++ [(i : Int)], ?_, ⟨by omega, by rw [hsu, if_pos hp]⟩, by omega⟩, fun hp => ⟨i + 1, out, ?_, ⟨by omega, by rw [hsu, if_neg hp]⟩, by omega⟩⟩, fun hi => ?_⟩
      · simp only [wi]
        simp [Wk_iff, fr, undefs, wkT, wkV, wkH, okid, Row.nlen, getO]
      · simp only [wi]
        simp [Wk_iff, fr, undefs, wkT, wkV, wkH, okid, Row.nlen, getO]
      · have e : i = N + 1 := by omega
        rw [hv, ho, e, hf]
        exact ⟨rfl, rfl⟩
theorem specMis_ok (l : List Int) (n : Int) (hl : l.length ≤ 1048576) : FC Try.prog 23 [.ro (.ints .i64 l), .int .i64 n] (.t2 (.own 0 true) (.bool (askB l n))) [(3, .ints .i64 (misL l n))] := by
  refine fc_eval sp2 V1 V1_ok hT hm Try.func23 rfl (by kernel_rfl) rfl rfl ?_
  intro A S r0 fr0 hA hS hr hfr
  cbv
  refine obP.mk (by subst hA hS; exact hl) (condP.mk (fun hc => ?_) (fun hc => ?_))
  · have hf : (!(askB l n)) = true := by subst hA hS; exact hc
    rw [Bool.not_eq_true'] at hf
    (try simp only [nc] at *); subst hA hS hr hfr; simp (disch := (refine KR.mk ?_; kernel_rfl)) only [alg, obP_iff, condP_iff, retP_iff, retM_iff, ofNat_cast, nc, Int.toNat_natCast, decide_eq_true_eq, decide_eq_false_iff_not, wrap_w64, Bool.not_eq_true', Bool.not_eq_false', beq_iff_eq, beq_eq_false_iff_ne, AV.bool.injEq, AV.int.injEq, AV.t2.injEq, AV.t3.injEq, AV.own.injEq, List.cons.injEq, Prod.mk.injEq, Row.ints.injEq, RW, Row.nlen, scalar, imp_self, and_true, true_and, lexT, heldT, tailT, planT, nb, Int.toNat_zero, List.getD_cons_zero, List.getD_cons_succ, List.set_cons_zero, List.set_cons_succ, sp2, sp, sb]
    simp [hf, misL]
  · have hf : (!(askB l n)) = false := by subst hA hS; exact hc
    rw [Bool.not_eq_false'] at hf
    have hok := ask_ok hf
    have hn := ask_split hf
    have hw := wOk_few hok
    obtain ⟨N, hN⟩ : ∃ N, N = n.toNat := ⟨_, rfl⟩
    obtain ⟨rw1, hrw⟩ : ∃ r, r = fwF l N := ⟨_, rfl⟩
    have hrl : rw1.length = N + 1 := by rw [hrw, fwF_len]
    rw [← hN] at hw
    obtain ⟨L, hL⟩ : ∃ L : Int, L = rw1.length := ⟨_, rfl⟩
    have hv : misL l n = misF rw1 (N + 1) := by rw [misL, if_pos hf, ← hN, hrw]
    refine obP.mk (by subst hA hS; exact hok) ?_
    refine loop2 (fun (i : Nat) (out : List Int) => ⟨fr 30 [(6, .own 2 true), (15, .own 1 true), (16, .int .i64 L), (17, .int .i64 i)], [.dead, .row 3 (.ints .i64 rw1), .row 3 (.ints .i64 out)]⟩)
      (fun i out => i ≤ N + 1 ∧ out = misF rw1 i) (fun i _ => N + 1 - i) 0 [] ?_ ?_ ?_
    · (try simp only [nc] at *); subst hA hS; simp (disch := (refine KR.mk ?_; kernel_rfl)) only [alg, obP_iff, condP_iff, retP_iff, retM_iff, ofNat_cast, nc, Int.toNat_natCast, decide_eq_true_eq, decide_eq_false_iff_not, wrap_w64, Bool.not_eq_true', Bool.not_eq_false', beq_iff_eq, beq_eq_false_iff_ne, AV.bool.injEq, AV.int.injEq, AV.t2.injEq, AV.t3.injEq, AV.own.injEq, List.cons.injEq, Prod.mk.injEq, Row.ints.injEq, RW, Row.nlen, scalar, imp_self, and_true, true_and, lexT, heldT, tailT, planT, nb, Int.toNat_zero, List.getD_cons_zero, List.getD_cons_succ, List.set_cons_zero, List.set_cons_succ, sp2, sp, sb]
      simp only [Int.toNat_natCast, ← hN, ← hrw, ← hL]
      simp [Wk_iff, fr, undefs, wkT, wkV, wkH, okid, Row.nlen, getO, alg]
    · exact ⟨by omega, rfl⟩
    · intro i out hR
      have i1 := hR.1
      have ho := hR.2
      have hol := misF_len rw1 i
      rw [← ho] at hol
      clear hR
      cbv
      (try simp only [nc] at *); subst hA hS hr hfr; simp (disch := (refine KR.mk ?_; kernel_rfl)) only [alg, obP_iff, condP_iff, retP_iff, retM_iff, ofNat_cast, nc, Int.toNat_natCast, decide_eq_true_eq, decide_eq_false_iff_not, wrap_w64, Bool.not_eq_true', Bool.not_eq_false', beq_iff_eq, beq_eq_false_iff_ne, AV.bool.injEq, AV.int.injEq, AV.t2.injEq, AV.t3.injEq, AV.own.injEq, List.cons.injEq, Prod.mk.injEq, Row.ints.injEq, RW, Row.nlen, scalar, imp_self, and_true, true_and, lexT, heldT, tailT, planT, nb, Int.toNat_zero, List.getD_cons_zero, List.getD_cons_succ, List.set_cons_zero, List.set_cons_succ, sp2, sp, sb]
      have wi : w64 ((i : Int) + 1) = ((i + 1 : Nat) : Int) := by rw [w64_id (by omega)]; omega
      have hsu := misF_succ rw1 i
      rw [← ho] at hsu
      refine ⟨fun hi => ⟨by omega, fun hp => ⟨by omega, by simp, i + 1, out ++ [(i : Int)], ?_, ⟨by omega, by rw [hsu, if_pos hp]⟩, by omega⟩, fun hp => ⟨i + 1, out, ?_, ⟨by omega, by rw [hsu, if_neg hp]⟩, by omega⟩⟩, fun hi => ?_⟩
      · simp only [wi]
        simp [Wk_iff, fr, undefs, wkT, wkV, wkH, okid, Row.nlen, getO]
      · simp only [wi]
        simp [Wk_iff, fr, undefs, wkT, wkV, wkH, okid, Row.nlen, getO]
      · have e : i = N + 1 := by omega
        rw [hv, ho, e, hf]
        exact ⟨rfl, rfl⟩
def V2 (S : Sp2) : List (Nat × (List AV → CR)) :=
  (18, fun args => match args with | [.ro (.ints .i64 l), .int .i64 n] => .pure (S.sm l) (.t2 (.bool (S.canV l n)) (.bool (S.askB l n))) [] | _ => .no) ::
  (17, fun args => match args with | [.ro (.ints .i64 l), .int .i64 n] => .pure (S.sm l) (.t2 (.bool (S.canV l n)) (.bool (S.askB l n))) [] | _ => .no) ::
  (20, fun args => match args with | [.ro (.ints .i64 l), .int .i64 n] => .pure (S.sm l) (.t2 (.int .i64 (S.nearV l n)) (.bool (S.askB l n))) [] | _ => .no) ::
  (19, fun args => match args with | [.ro (.ints .i64 l), .int .i64 n] => .pure (S.sm l) (.t2 (.int .i64 (S.nearV l n)) (.bool (S.askB l n))) [] | _ => .no) ::
  (22, fun args => match args with | [.ro (.ints .i64 l), .int .i64 n] => .pure (S.sm l) (.t2 (.int .i64 (S.thV l n)) (.bool (S.thB l n))) [] | _ => .no) ::
  (21, fun args => match args with | [.ro (.ints .i64 l), .int .i64 n] => .pure (S.sm l) (.t2 (.int .i64 (S.thV l n)) (.bool (S.thB l n))) [] | _ => .no) ::
  (24, fun args => match args with | [.ro (.ints .i64 l), .int .i64 n] => .pure (S.sm l) (.t2 (.own 0 true) (.bool (S.askB l n))) [(3, .ints .i64 (S.misL l n))] | _ => .no) ::
  (23, fun args => match args with | [.ro (.ints .i64 l), .int .i64 n] => .pure (S.sm l) (.t2 (.own 0 true) (.bool (S.askB l n))) [(3, .ints .i64 (S.misL l n))] | _ => .no) ::
  V1 S
set_option maxRecDepth 100000 in
theorem V2_ok : TabOK Try.prog (tfind (V2 sp2)) := by
  refine tab_cons (fun args => ?_) (tab_cons (fun args => ?_) (tab_cons (fun args => ?_) (tab_cons (fun args => ?_) (tab_cons (fun args => ?_) (tab_cons (fun args => ?_) (tab_cons (fun args => ?_) (tab_cons (fun args => ?_) (V1_ok))))))))
  · split
    · exact ent_pure fun h => implCan_ok _ _ h
    · exact ent_no
  · split
    · exact ent_pure fun h => specCan_ok _ _ h
    · exact ent_no
  · split
    · exact ent_pure fun h => implNear_ok _ _ h
    · exact ent_no
  · split
    · exact ent_pure fun h => specNear_ok _ _ h
    · exact ent_no
  · split
    · exact ent_pure fun h => implThin_ok _ _ h
    · exact ent_no
  · split
    · exact ent_pure fun h => specThin_ok _ _ h
    · exact ent_no
  · split
    · exact ent_pure fun h => implMis_ok _ _ h
    · exact ent_no
  · split
    · exact ent_pure fun h => specMis_ok _ _ h
    · exact ent_no
set_option maxRecDepth 100000 in
theorem lawCanFill (l : List Int) (n : Int) : FC Try.prog 5 [.ro (.ints .i64 l), .int .i64 n] (.bool true) [] := by
  refine fc_eval sp2 V2 V2_ok hT hm Try.func5 rfl (by kernel_rfl) rfl rfl ?_
  intro A S r0 fr0 hA hS hr hfr
  cbv
  (try simp only [nc] at *); subst hA hS hr hfr; simp (disch := (refine KR.mk ?_; kernel_rfl)) only [alg, obP_iff, condP_iff, retP_iff, retM_iff, ofNat_cast, nc, Int.toNat_natCast, decide_eq_true_eq, decide_eq_false_iff_not, wrap_w64, Bool.not_eq_true', Bool.not_eq_false', beq_iff_eq, beq_eq_false_iff_ne, AV.bool.injEq, AV.int.injEq, AV.t2.injEq, AV.t3.injEq, AV.own.injEq, List.cons.injEq, Prod.mk.injEq, Row.ints.injEq, RW, Row.nlen, scalar, imp_self, and_true, true_and, lexT, heldT, tailT, planT, nb, Int.toNat_zero, List.getD_cons_zero, List.getD_cons_succ, List.set_cons_zero, List.set_cons_succ, sp2, sp, sb, eqL]
  simp; try omega
set_option maxRecDepth 100000 in
theorem lawNearestFill (l : List Int) (n : Int) : FC Try.prog 6 [.ro (.ints .i64 l), .int .i64 n] (.bool true) [] := by
  refine fc_eval sp2 V2 V2_ok hT hm Try.func6 rfl (by kernel_rfl) rfl rfl ?_
  intro A S r0 fr0 hA hS hr hfr
  cbv
  (try simp only [nc] at *); subst hA hS hr hfr; simp (disch := (refine KR.mk ?_; kernel_rfl)) only [alg, obP_iff, condP_iff, retP_iff, retM_iff, ofNat_cast, nc, Int.toNat_natCast, decide_eq_true_eq, decide_eq_false_iff_not, wrap_w64, Bool.not_eq_true', Bool.not_eq_false', beq_iff_eq, beq_eq_false_iff_ne, AV.bool.injEq, AV.int.injEq, AV.t2.injEq, AV.t3.injEq, AV.own.injEq, List.cons.injEq, Prod.mk.injEq, Row.ints.injEq, RW, Row.nlen, scalar, imp_self, and_true, true_and, lexT, heldT, tailT, planT, nb, Int.toNat_zero, List.getD_cons_zero, List.getD_cons_succ, List.set_cons_zero, List.set_cons_succ, sp2, sp, sb, eqL]
  simp; try omega
set_option maxRecDepth 100000 in
theorem lawThinnestNeeded (l : List Int) (n : Int) : FC Try.prog 7 [.ro (.ints .i64 l), .int .i64 n] (.bool true) [] := by
  refine fc_eval sp2 V2 V2_ok hT hm Try.func7 rfl (by kernel_rfl) rfl rfl ?_
  intro A S r0 fr0 hA hS hr hfr
  cbv
  (try simp only [nc] at *); subst hA hS hr hfr; simp (disch := (refine KR.mk ?_; kernel_rfl)) only [alg, obP_iff, condP_iff, retP_iff, retM_iff, ofNat_cast, nc, Int.toNat_natCast, decide_eq_true_eq, decide_eq_false_iff_not, wrap_w64, Bool.not_eq_true', Bool.not_eq_false', beq_iff_eq, beq_eq_false_iff_ne, AV.bool.injEq, AV.int.injEq, AV.t2.injEq, AV.t3.injEq, AV.own.injEq, List.cons.injEq, Prod.mk.injEq, Row.ints.injEq, RW, Row.nlen, scalar, imp_self, and_true, true_and, lexT, heldT, tailT, planT, nb, Int.toNat_zero, List.getD_cons_zero, List.getD_cons_succ, List.set_cons_zero, List.set_cons_succ, sp2, sp, sb, eqL]
  simp; try omega
set_option maxRecDepth 100000 in
theorem lawMissingSums (l : List Int) (n : Int) : FC Try.prog 8 [.ro (.ints .i64 l), .int .i64 n] (.bool true) [] := by
  refine fc_eval sp2 V2 V2_ok hT hm Try.func8 rfl (by kernel_rfl) rfl rfl ?_
  intro A S r0 fr0 hA hS hr hfr
  cbv
  (try simp only [nc] at *); subst hA hS hr hfr; simp (disch := (refine KR.mk ?_; kernel_rfl)) only [alg, obP_iff, condP_iff, retP_iff, retM_iff, ofNat_cast, nc, Int.toNat_natCast, decide_eq_true_eq, decide_eq_false_iff_not, wrap_w64, Bool.not_eq_true', Bool.not_eq_false', beq_iff_eq, beq_eq_false_iff_ne, AV.bool.injEq, AV.int.injEq, AV.t2.injEq, AV.t3.injEq, AV.own.injEq, List.cons.injEq, Prod.mk.injEq, Row.ints.injEq, RW, Row.nlen, scalar, imp_self, and_true, true_and, lexT, heldT, tailT, planT, nb, Int.toNat_zero, List.getD_cons_zero, List.getD_cons_succ, List.set_cons_zero, List.set_cons_succ, sp2, sp, sb, eqL]
  have hm : (misL l n).length ≤ 1048576 := by
    unfold misL; split
    · rename_i hf
      have := misF_len (fwF l n.toNat) (n.toNat + 1)
      have := ask_split hf
      omega
    · simp
  simp [upFrom_len, heldL_up]
  try omega
end Go.Proofs.Ytjkkjfnkcfaigaa
