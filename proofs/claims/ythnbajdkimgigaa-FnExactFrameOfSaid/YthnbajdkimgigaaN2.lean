/-
  Rules one after the other: the implementation; tables compared and held.
-/
import Derived.Test.YthnbajdkimgigaaN1
set_option linter.unusedSimpArgs false
set_option linter.unusedVariables false
namespace Go.Proofs.Ythnbajdkimgigaa
open Go.Ab

theorem eqLL_ok (a b : List (List Int)) (ha : smT a) : FC Try.prog 9 [.ro (.intss a), .ro (.intss b)] (.bool (eqLL a b)) [] := by
  refine fc_eval sb B2 B2_ok hT hm Try.func9 rfl (by kernel_rfl) rfl rfl ?_
  intro A S r0 fr0 hA hS hr hfr
  cbv
  have h6 := ha.1
  refine condP.mk (fun hc => ?_) (fun hc => ?_)
  · have hl : ¬ a.length = b.length := by
      (try simp only [nc] at *); (try subst hA); (try subst hS); simp (disch := (refine KR.mk ?_; kernel_rfl)) only [alg, obP_iff, condP_iff, retP_iff, retM_iff, ofNat_cast, nc, Int.toNat_natCast, decide_eq_true_eq, decide_eq_false_iff_not, wrap_w64, retS_iff, Bool.not_eq_true', Bool.not_eq_false', beq_iff_eq, beq_eq_false_iff_ne, AV.bool.injEq, AV.int.injEq, AV.t2.injEq, AV.t3.injEq, AV.own.injEq, List.cons.injEq, Prod.mk.injEq, Row.ints.injEq, RW, Row.nlen, scalar, imp_self, and_true, true_and, lexT, heldT, tailT, planT, nb, Int.toNat_zero, List.getD_cons_zero, List.getD_cons_succ, List.set_cons_zero, List.set_cons_succ, sb] at hc
      omega
    have : a ≠ b := by intro e; subst e; exact hl rfl
    (try simp only [nc] at *); subst hA hS hr hfr; simp (disch := (refine KR.mk ?_; kernel_rfl)) only [alg, obP_iff, condP_iff, retP_iff, retM_iff, ofNat_cast, nc, Int.toNat_natCast, decide_eq_true_eq, decide_eq_false_iff_not, wrap_w64, retS_iff, Bool.not_eq_true', Bool.not_eq_false', beq_iff_eq, beq_eq_false_iff_ne, AV.bool.injEq, AV.int.injEq, AV.t2.injEq, AV.t3.injEq, AV.own.injEq, List.cons.injEq, Prod.mk.injEq, Row.ints.injEq, RW, Row.nlen, scalar, imp_self, and_true, true_and, lexT, heldT, tailT, planT, nb, Int.toNat_zero, List.getD_cons_zero, List.getD_cons_succ, List.set_cons_zero, List.set_cons_succ, sb]
    simp [eqLL, this]
  · have hl : a.length = b.length := by
      (try simp only [nc] at *); (try subst hA); (try subst hS); simp (disch := (refine KR.mk ?_; kernel_rfl)) only [alg, obP_iff, condP_iff, retP_iff, retM_iff, ofNat_cast, nc, Int.toNat_natCast, decide_eq_true_eq, decide_eq_false_iff_not, wrap_w64, retS_iff, Bool.not_eq_true', Bool.not_eq_false', beq_iff_eq, beq_eq_false_iff_ne, AV.bool.injEq, AV.int.injEq, AV.t2.injEq, AV.t3.injEq, AV.own.injEq, List.cons.injEq, Prod.mk.injEq, Row.ints.injEq, RW, Row.nlen, scalar, imp_self, and_true, true_and, lexT, heldT, tailT, planT, nb, Int.toNat_zero, List.getD_cons_zero, List.getD_cons_succ, List.set_cons_zero, List.set_cons_succ, sb] at hc
      omega
    clear hc
    refine loop1 (fun (i : Nat) => ⟨fr 27 [(0, .ro (.intss a)), (1, .ro (.intss b)), (5, .int .i64 i)], [.dead]⟩)
      (fun i => i ≤ a.length ∧ a.take i = b.take i) (fun i => a.length - i) 0 ?_ ?_ ?_
    · subst hA; simp [Wk_iff, fr, undefs, wkT, wkV, wkH, okid, Row.nlen, Row.rk, RK.rowk, w64_eq, getO, alg]
    · simp
    · intro i hR
      have i1 := hR.1
      have i2 := hR.2
      clear hR
      cbv
      (try simp only [nc] at *); subst hA hS hr hfr; simp (disch := (refine KR.mk ?_; kernel_rfl)) only [alg, obP_iff, condP_iff, retP_iff, retM_iff, ofNat_cast, nc, Int.toNat_natCast, decide_eq_true_eq, decide_eq_false_iff_not, wrap_w64, retS_iff, Bool.not_eq_true', Bool.not_eq_false', beq_iff_eq, beq_eq_false_iff_ne, AV.bool.injEq, AV.int.injEq, AV.t2.injEq, AV.t3.injEq, AV.own.injEq, List.cons.injEq, Prod.mk.injEq, Row.ints.injEq, RW, Row.nlen, scalar, imp_self, and_true, true_and, lexT, heldT, tailT, planT, nb, Int.toNat_zero, List.getD_cons_zero, List.getD_cons_succ, List.set_cons_zero, List.set_cons_succ, sb]
      have w1 : w64 ((i : Int) + 1) = ((i + 1 : Nat) : Int) := by rw [w64_id (by omega)]; omega
      simp only [w1]
      refine ⟨fun hi => ⟨by omega, by omega, by have := ha.2 i (by omega); omega, fun hn => ?_, fun hy => ⟨i + 1, ?_, ⟨by omega, ?_⟩, by omega⟩⟩, fun hi => ?_⟩
      · have : a ≠ b := by
          intro e; subst e
          simp [eqL] at hn
        simp [eqLL, this]
      · simp [Wk_iff, fr, undefs, wkT, wkV, wkH, okid, Row.nlen, Row.rk, RK.rowk, getO]
      · have he : a.getD i [] = b.getD i [] := by simpa only [eqL, decide_eq_true_eq] using hy
        rw [take_getD [] _ _ (by omega), take_getD [] _ _ (by omega), i2, he]
      · have : a = b := take_all hl (by omega) i2
        simp [eqLL, this]
theorem heldLL_ok (a : List (List Int)) (k : Int) (ha : smT a) (hk : 0 ≤ k ∧ k ≤ 1000000) : FC Try.prog 13 [.ro (.intss a), .int .i64 k] (.int .i64 (heldLL a k)) [] := by
  refine fc_eval sb B2 B2_ok hT hm Try.func13 rfl (by kernel_rfl) rfl rfl ?_
  intro A S r0 fr0 hA hS hr hfr
  cbv
  have h6 := ha.1
  refine loop2 (fun (i : Nat) (q : Int) => ⟨fr 21 [(0, .ro (.intss a)), (1, .int .i64 q), (5, .int .i64 i)], [.dead]⟩)
    (fun i q => i ≤ a.length ∧ (0 ≤ q ∧ q ≤ 1000000 + 8 * i) ∧ heldLL a k = heldLL (a.drop i) q) (fun i _ => a.length - i) 0 k ?_ ?_ ?_
  · subst hA; simp [Wk_iff, fr, undefs, wkT, wkV, wkH, okid, Row.nlen, Row.rk, RK.rowk, w64_eq, getO, alg]
  · exact ⟨by omega, by omega, rfl⟩
  · intro i q hR
    have i1 := hR.1
    have i2 := hR.2.1
    have i3 := hR.2.2
    clear hR
    cbv
    (try simp only [nc] at *); subst hA hS hr hfr; simp (disch := (refine KR.mk ?_; kernel_rfl)) only [alg, obP_iff, condP_iff, retP_iff, retM_iff, ofNat_cast, nc, Int.toNat_natCast, decide_eq_true_eq, decide_eq_false_iff_not, wrap_w64, retS_iff, Bool.not_eq_true', Bool.not_eq_false', beq_iff_eq, beq_eq_false_iff_ne, AV.bool.injEq, AV.int.injEq, AV.t2.injEq, AV.t3.injEq, AV.own.injEq, List.cons.injEq, Prod.mk.injEq, Row.ints.injEq, RW, Row.nlen, scalar, imp_self, and_true, true_and, lexT, heldT, tailT, planT, nb, Int.toNat_zero, List.getD_cons_zero, List.getD_cons_succ, List.set_cons_zero, List.set_cons_succ, sb]
    have w1 : w64 ((i : Int) + 1) = ((i + 1 : Nat) : Int) := by rw [w64_id (by omega)]; omega
    simp only [w1]
    refine ⟨fun hi => ?_, fun hi => ?_⟩
    · have hx := ha.2 i (by omega)
      have hd := heldLL_drop a q i (by omega)
      refine ⟨by omega, ⟨by omega, by omega⟩, fun hn => ?_, fun hn => ⟨i + 1, heldL (a.getD i []) q, ?_, ⟨by omega, ?_, ?_⟩, by omega⟩⟩
      · rw [i3, hd, if_pos hn]
      · simp [Wk_iff, fr, undefs, wkT, wkV, wkH, okid, Row.nlen, Row.rk, RK.rowk, getO]
      · rcases heldL_val (a.getD i []) q with h | h <;> omega
      · rw [i3, hd, if_neg hn]
    · rw [i3, List.drop_of_length_le (by omega)]; rfl
def N3 (S : Sq) : List (Nat × (List AV → CR)) :=
  (22, fun args => match args with | [.ro (.recs 2 l), .ro (.ints .i64 c)] => .pure (S.ruP l c) (.t2 (.own 0 true) (.bool (S.ruB l c))) [(34, .intss (S.ruV l c))] | _ => .no) ::
  N1 S
set_option maxRecDepth 100000 in
theorem N3_ok : TabOK Try.prog (tfind (N3 sq)) := by
  refine tab_cons (fun args => ?_) (N1_ok)
  · split
    · exact ent_pure fun h => ruRules_ok _ _ h
    · exact ent_no
theorem rk_ru {l : List (List Int)} {ns : List Int} (h : rkB l ns = true) : ruP l ns := by
  simp only [rkB, Bool.and_eq_true, decide_eq_true_eq] at h
  refine ⟨stB_ok h.1.1, by omega, fun i hi => ?_⟩
  have := allR_get h.2 hi
  omega
theorem specRZ_ok (l : List (List Int)) (ns : List Int) (hl : l.length ≤ 1048576) (hn : ns.length ≤ 1048576) : FC Try.prog 14 [.ro (.recs 2 l), .ro (.ints .i64 ns)] (.t2 (.own 0 true) (.bool (rzB l ns))) [(34, .intss (rzV l ns))] := by
  refine fc_eval sq N3 N3_ok hT hm Try.func14 rfl (by kernel_rfl) rfl rfl ?_
  intro A S r0 fr0 hA hS hr hfr
  cbv
  refine obP.mk (by subst hA hS; exact hl) ?_
  iterate 4 refine obP.mk (by subst hA; first | exact fun _ => trivial | exact fun h => h) ?_
  refine obP.mk (by subst hA hS; exact fun _ => hn) ?_
  iterate 2 refine obP.mk (by subst hA; first | exact fun _ => trivial | exact fun h => h) ?_
  have hcd : (!(stB l) || decide (6 < (ns.length : Int)) || !(allR ns 1 400)) = !(rkB l ns) := by
    rw [Bool.eq_iff_iff]
    simp only [rkB, Bool.or_eq_true, Bool.not_eq_true', decide_eq_true_eq, Bool.and_eq_false_iff, decide_eq_false_iff_not]
    constructor
    · rintro ((h | h) | h)
      · exact .inl (.inl h)
      · exact .inl (.inr (by omega))
      · exact .inr h
    · rintro ((h | h) | h)
      · exact .inl (.inl h)
      · exact .inl (.inr (by omega))
      · exact .inr h
  refine condP.mk (fun hc => ?_) (fun hc => ?_)
  · have hf : (!(stB l) || decide (6 < (ns.length : Int)) || !(allR ns 1 400)) = true := by subst hA hS; exact hc
    rw [hcd, Bool.not_eq_true'] at hf
    (try simp only [nc] at *); subst hA hS hr hfr; simp (disch := (refine KR.mk ?_; kernel_rfl)) only [alg, obP_iff, condP_iff, retP_iff, retM_iff, ofNat_cast, nc, Int.toNat_natCast, decide_eq_true_eq, decide_eq_false_iff_not, wrap_w64, retS_iff, Bool.not_eq_true', Bool.not_eq_false', beq_iff_eq, beq_eq_false_iff_ne, AV.bool.injEq, AV.int.injEq, AV.t2.injEq, AV.t3.injEq, AV.own.injEq, List.cons.injEq, Prod.mk.injEq, Row.ints.injEq, RW, Row.nlen, scalar, imp_self, and_true, true_and, lexT, heldT, tailT, planT, nb, Int.toNat_zero, List.getD_cons_zero, List.getD_cons_succ, List.set_cons_zero, List.set_cons_succ, sq, sp3, sp2, sp, sb]
    simp [rzB, rzV, hf]
  · have hf : (!(stB l) || decide (6 < (ns.length : Int)) || !(allR ns 1 400)) = false := by subst hA hS; exact hc
    rw [hcd, Bool.not_eq_false'] at hf
    (try simp only [nc] at *); subst hA hS hr hfr; simp (disch := (refine KR.mk ?_; kernel_rfl)) only [alg, obP_iff, condP_iff, retP_iff, retM_iff, ofNat_cast, nc, Int.toNat_natCast, decide_eq_true_eq, decide_eq_false_iff_not, wrap_w64, retS_iff, Bool.not_eq_true', Bool.not_eq_false', beq_iff_eq, beq_eq_false_iff_ne, AV.bool.injEq, AV.int.injEq, AV.t2.injEq, AV.t3.injEq, AV.own.injEq, List.cons.injEq, Prod.mk.injEq, Row.ints.injEq, RW, Row.nlen, scalar, imp_self, and_true, true_and, lexT, heldT, tailT, planT, nb, Int.toNat_zero, List.getD_cons_zero, List.getD_cons_succ, List.set_cons_zero, List.set_cons_succ, sq, sp3, sp2, sp, sb]
    exact ⟨rk_ru hf, by simp [rzB, hf], by simp [rzV, hf]⟩
/-- A table whose rows are one's own. -/
def tyT : List (Nat × TI) := (24, ⟨none, some (34, .tab)⟩) :: ty
theorem hTT : TTok Try.prog (Go.Ab.look tyT) := tt_sound (by kernel_rfl)
def N2 (S : Sq) : List (Nat × (List AV → CR)) :=
  N1 S
set_option maxRecDepth 100000 in
theorem N2_ok : TabOK Try.prog (tfind (N2 sq)) := by
  refine N1_ok
def Nx (S : Sq) : List (Nat × (List AV → CR)) :=
  (30, fun args => match args with
    | [.ro (.recs 2 l), .int .i64 n] => (match S.hasS l n with | true => .pure (S.yes l n) (.own 0 false) [(3, .ints .i64 (S.bestS l n))] | false => .pure (S.no l n) .nilS [])
    | _ => .no) :: N2 S
theorem Nx_ok : TabOK Try.prog (tfind (Nx sq)) := by
  refine tab_cons (fun args => ?_) N2_ok
  split
  · split
    · exact ent_pure fun h => ruleOf_some _ _ h.1 h.2.1 h.2.2
    · exact ent_pure fun h => ruleOf_none _ _ h.1 h.2.1 h.2.2
  · exact ent_no
set_option maxRecDepth 100000 in
set_option maxHeartbeats 1000000 in
theorem implRZ_ok (l : List (List Int)) (ns : List Int) (hl : l.length ≤ 1048576) (hn : ns.length ≤ 1048576) : FC Try.prog 16 [.ro (.recs 2 l), .ro (.ints .i64 ns)] (.t2 (.own 0 false) (.bool (rzB l ns))) [(34, .tabs (rzV l ns))] := by
  refine fc_eval sq Nx Nx_ok hTT hm Try.func16 rfl (by kernel_rfl) rfl rfl ?_
  intro A S r0 fr0 hA hS hr hfr
  cbv
  refine obP.mk (by subst hA hS; exact hl) ?_
  iterate 3 refine obP.mk (by subst hA; first | exact fun _ => trivial | exact fun h => h) ?_
  obtain ⟨L, hL⟩ : ∃ L : Int, L = ns.length := ⟨_, rfl⟩
  refine condP.mk (fun hc => ?_) (fun hc => ?_)
  · have hf : (!(stB l) || decide (6 < (ns.length : Int))) = true := by subst hA hS; exact hc
    have hk : rkB l ns = false := by
      cases hb : rkB l ns with
      | false => rfl
      | true =>
        simp only [rkB, Bool.and_eq_true, decide_eq_true_eq] at hb
        rw [hb.1.1, Bool.not_true, Bool.false_or, decide_eq_true_eq] at hf
        omega
    (try simp only [nc] at *); subst hA hS hr hfr; simp (disch := (refine KR.mk ?_; kernel_rfl)) only [alg, obP_iff, condP_iff, retP_iff, retM_iff, ofNat_cast, nc, Int.toNat_natCast, decide_eq_true_eq, decide_eq_false_iff_not, wrap_w64, retS_iff, Bool.not_eq_true', Bool.not_eq_false', beq_iff_eq, beq_eq_false_iff_ne, AV.bool.injEq, AV.int.injEq, AV.t2.injEq, AV.t3.injEq, AV.own.injEq, List.cons.injEq, Prod.mk.injEq, Row.ints.injEq, RW, Row.nlen, scalar, imp_self, and_true, true_and, lexT, heldT, tailT, planT, nb, Int.toNat_zero, List.getD_cons_zero, List.getD_cons_succ, List.set_cons_zero, List.set_cons_succ, sq, sp3, sp2, sp, sb]
    simp [rzB, rzV, hk]
  · have hf : (!(stB l) || decide (6 < (ns.length : Int))) = false := by subst hA hS; exact hc
    have hst : stB l = true ∧ (ns.length : Int) ≤ 6 := by
      rw [Bool.or_eq_false_iff, Bool.not_eq_false', decide_eq_false_iff_not] at hf
      exact ⟨hf.1, by omega⟩
    clear hc
    refine loop1 (fun (i : Nat) => ⟨fr 56 [(0, .ro (.recs 2 l)), (1, .ro (.ints .i64 ns)), (22, .ro (.ints .i64 ns)), (23, .int .i64 L), (24, .int .i64 i)], [.dead]⟩)
      (fun i => i ≤ ns.length ∧ allR ns 1 400 = allR (ns.drop i) 1 400) (fun i => ns.length - i) 0 ?_ ?_ ?_
    · subst hA hS; simp [Wk_iff, fr, undefs, wkT, wkV, wkH, okid, Row.nlen, Row.rk, RK.rowk, getO, alg, hL]
    · simp
    · intro i hR
      have i1 := hR.1
      have i2 := hR.2
      clear hR
      cbv
      (try simp only [nc] at *)
      refine condP.mk (fun hc => ?_) (fun hc => ?_)
      · have hi : i < ns.length := by
          have : (i : Int) < L := by (try simp only [nc] at *); (try subst hA); (try subst hS); simp (disch := (refine KR.mk ?_; kernel_rfl)) only [alg, obP_iff, condP_iff, retP_iff, retM_iff, ofNat_cast, nc, Int.toNat_natCast, decide_eq_true_eq, decide_eq_false_iff_not, wrap_w64, retS_iff, Bool.not_eq_true', Bool.not_eq_false', beq_iff_eq, beq_eq_false_iff_ne, AV.bool.injEq, AV.int.injEq, AV.t2.injEq, AV.t3.injEq, AV.own.injEq, List.cons.injEq, Prod.mk.injEq, Row.ints.injEq, RW, Row.nlen, scalar, imp_self, and_true, true_and, lexT, heldT, tailT, planT, nb, Int.toNat_zero, List.getD_cons_zero, List.getD_cons_succ, List.set_cons_zero, List.set_cons_succ, sq, sp3, sp2, sp, sb] at hc; exact hc
          omega
        clear hc
        have hd := allR_drop ns 1 400 i hi
        (try simp only [nc] at *); subst hA hS hr hfr; simp (disch := (refine KR.mk ?_; kernel_rfl)) only [alg, obP_iff, condP_iff, retP_iff, retM_iff, ofNat_cast, nc, Int.toNat_natCast, decide_eq_true_eq, decide_eq_false_iff_not, wrap_w64, retS_iff, Bool.not_eq_true', Bool.not_eq_false', beq_iff_eq, beq_eq_false_iff_ne, AV.bool.injEq, AV.int.injEq, AV.t2.injEq, AV.t3.injEq, AV.own.injEq, List.cons.injEq, Prod.mk.injEq, Row.ints.injEq, RW, Row.nlen, scalar, imp_self, and_true, true_and, lexT, heldT, tailT, planT, nb, Int.toNat_zero, List.getD_cons_zero, List.getD_cons_succ, List.set_cons_zero, List.set_cons_succ, sq, sp3, sp2, sp, sb]
        have w1 : w64 ((i : Int) + 1) = ((i + 1 : Nat) : Int) := by rw [w64_id (by omega)]; omega
        simp only [w1]
        refine ⟨by omega, fun hb => ?_, fun hb => ⟨i + 1, ?_, ⟨by omega, ?_⟩, by omega⟩⟩
        · have hk : rkB l ns = false := by rw [rkB, i2, hd, hb]; simp
          simp [rzB, rzV, hk]
        · simp [Wk_iff, fr, undefs, wkT, wkV, wkH, okid, Row.nlen, Row.rk, RK.rowk, getO]
        · rw [i2, hd, hb]; rfl
      · have hi : ns.length ≤ i := by
          have : ¬ (i : Int) < L := by (try simp only [nc] at *); (try subst hA); (try subst hS); simp (disch := (refine KR.mk ?_; kernel_rfl)) only [alg, obP_iff, condP_iff, retP_iff, retM_iff, ofNat_cast, nc, Int.toNat_natCast, decide_eq_true_eq, decide_eq_false_iff_not, wrap_w64, retS_iff, Bool.not_eq_true', Bool.not_eq_false', beq_iff_eq, beq_eq_false_iff_ne, AV.bool.injEq, AV.int.injEq, AV.t2.injEq, AV.t3.injEq, AV.own.injEq, List.cons.injEq, Prod.mk.injEq, Row.ints.injEq, RW, Row.nlen, scalar, imp_self, and_true, true_and, lexT, heldT, tailT, planT, nb, Int.toNat_zero, List.getD_cons_zero, List.getD_cons_succ, List.set_cons_zero, List.set_cons_succ, sq, sp3, sp2, sp, sb] at hc; exact hc
          omega
        clear hc
        have hall : allR ns 1 400 = true := by rw [i2, allR_end _ _ _ _ hi]
        have hk : rkB l ns = true := by
          simp only [rkB, Bool.and_eq_true, decide_eq_true_eq]
          exact ⟨hst, hall⟩
        have hru := rk_ru hk
        clear i1 i2 hi
        refine loop3 (fun (j : Nat) (lk out : List (List Int)) => ⟨fr 56 [(8, .ro (.recs 2 lk)), (9, .own 1 false), (35, .ro (.ints .i64 ns)), (36, .int .i64 L), (37, .int .i64 j)], [.dead, .row 34 (.tabs out)]⟩)
          (fun j lk out => j ≤ ns.length ∧ okS lk ∧ out.length = j ∧ ruC l ns lk out j) (fun j _ _ => ns.length - j) 0 l [] ?_ ?_ ?_
        · subst hA hS; simp [Wk_iff, fr, undefs, wkT, wkV, wkH, okid, Row.nlen, Row.rk, RK.rowk, getO, alg, hL]
        · exact ⟨by omega, hru.1, rfl, ruC_0 _ _⟩
        · intro j lk out hR
          have j1 := hR.1
          have j2 := hR.2.1
          have j3 := hR.2.2.1
          have j4 := hR.2.2.2
          clear hR
          have HS := Hd.mk j2
          have HC := Hd.mk j4
          have HU := Hd.mk hru
          clear j2 j4 hru
          cbv
          (try simp only [nc] at *)
          refine condP.mk (fun hc => ?_) (fun hc => ?_)
          · have hj : j < ns.length := by
              have : (j : Int) < L := by (try simp only [nc] at *); (try subst hA); (try subst hS); simp (disch := (refine KR.mk ?_; kernel_rfl)) only [alg, obP_iff, condP_iff, retP_iff, retM_iff, ofNat_cast, nc, Int.toNat_natCast, decide_eq_true_eq, decide_eq_false_iff_not, wrap_w64, retS_iff, Bool.not_eq_true', Bool.not_eq_false', beq_iff_eq, beq_eq_false_iff_ne, AV.bool.injEq, AV.int.injEq, AV.t2.injEq, AV.t3.injEq, AV.own.injEq, List.cons.injEq, Prod.mk.injEq, Row.ints.injEq, RW, Row.nlen, scalar, imp_self, and_true, true_and, lexT, heldT, tailT, planT, nb, Int.toNat_zero, List.getD_cons_zero, List.getD_cons_succ, List.set_cons_zero, List.set_cons_succ, sq, sp3, sp2, sp, sb] at hc; exact hc
              omega
            clear hc
            refine obP.mk (by subst hA; simp only [alg, ofNat_cast]; omega) ?_
            obtain ⟨n, hne⟩ : ∃ n, n = ns.getD j 0 := ⟨_, rfl⟩
            have hb := (HU.h).2.2 j hj
            rw [← hne] at hb
            have j2 := HS.h
            have hlk := j2.1
            cases hbE : S.hasS lk (A.gI ns (A.tn (Int.ofNat j)))
            · have hf : hasS lk n.toNat = false := by
                have h0 := hbE
                subst hA hS
                rw [hne]; exact h0
              have hnone := ruC_n HC.h hj (by rw [← hne]; exact hf)
              have hz : rzB l ns = false := by rw [rzB, ruB, hnone]; simp
              have hz2 : rzV l ns = [] := by rw [rzV, ruV, hnone]; simp
              simp only [hbE]
              clear hbE
              cbv
              refine obP.mk (by subst hA hS; simp only [alg, ofNat_cast, Int.toNat_natCast]; rw [← hne]; exact ⟨HS.h, HU.h.2.2 j hj |> (fun h => by rw [hne]; exact h), hf⟩) ?_
              (try simp only [nc] at *); subst hA hS hr hfr; simp (disch := (refine KR.mk ?_; kernel_rfl)) only [alg, obP_iff, condP_iff, retP_iff, retM_iff, ofNat_cast, nc, Int.toNat_natCast, decide_eq_true_eq, decide_eq_false_iff_not, wrap_w64, retS_iff, Bool.not_eq_true', Bool.not_eq_false', beq_iff_eq, beq_eq_false_iff_ne, AV.bool.injEq, AV.int.injEq, AV.t2.injEq, AV.t3.injEq, AV.own.injEq, List.cons.injEq, Prod.mk.injEq, Row.ints.injEq, RW, Row.nlen, scalar, imp_self, and_true, true_and, lexT, heldT, tailT, planT, nb, Int.toNat_zero, List.getD_cons_zero, List.getD_cons_succ, List.set_cons_zero, List.set_cons_succ, sq, sp3, sp2, sp, sb]
              simp [hz, hz2]
            · have hf : hasS lk n.toNat = true := by
                have h0 := hbE
                subst hA hS
                rw [hne]; exact h0
              have hst := ruC_y HC.h hj (by rw [← hne]; exact hf)
              rw [← hne] at hst
              have HST := Hd.mk hst
              have HF := Hd.mk hf
              have HN := Hd.mk hne
              simp only [hbE]
              clear hbE hst hf
              cbv
              refine obP.mk (by subst hA hS; simp only [alg, ofNat_cast, Int.toNat_natCast]; rw [← hne]; exact ⟨HS.h, hb, HF.h⟩) ?_
              refine condP.mk (fun h => by cases h) (fun _ => ?_)
              have hbl := bstS_len lk n
              have hst := HST.h
              (try simp only [nc] at *); subst hA hS hr hfr; simp (disch := (refine KR.mk ?_; kernel_rfl)) only [alg, obP_iff, condP_iff, retP_iff, retM_iff, ofNat_cast, nc, Int.toNat_natCast, decide_eq_true_eq, decide_eq_false_iff_not, wrap_w64, retS_iff, Bool.not_eq_true', Bool.not_eq_false', beq_iff_eq, beq_eq_false_iff_ne, AV.bool.injEq, AV.int.injEq, AV.t2.injEq, AV.t3.injEq, AV.own.injEq, List.cons.injEq, Prod.mk.injEq, Row.ints.injEq, RW, Row.nlen, scalar, imp_self, and_true, true_and, lexT, heldT, tailT, planT, nb, Int.toNat_zero, List.getD_cons_zero, List.getD_cons_succ, List.set_cons_zero, List.set_cons_succ, sq, sp3, sp2, sp, sb, ← hne]
              have w1 : w64 ((j : Int) + 1) = ((j + 1 : Nat) : Int) := by rw [w64_id (by omega)]; omega
              have hbe : bestL (lsL lk) (csL lk) n.toNat = bstS lk n := rfl
              simp only [w1, hbe]
              refine ⟨⟨by omega, by omega⟩, by omega, by simp, j + 1, nxS lk n, out ++ [bstS lk n], ?_, ⟨by omega, okS_nx j2, by simp [j3], hst⟩, by omega⟩
              simp [Wk_iff, fr, undefs, wkT, wkV, wkH, okid, Row.nlen, Row.rk, RK.rowk, getO, nxS]
          · have hj : ns.length ≤ j := by
              have : ¬ (j : Int) < L := by (try simp only [nc] at *); (try subst hA); (try subst hS); simp (disch := (refine KR.mk ?_; kernel_rfl)) only [alg, obP_iff, condP_iff, retP_iff, retM_iff, ofNat_cast, nc, Int.toNat_natCast, decide_eq_true_eq, decide_eq_false_iff_not, wrap_w64, retS_iff, Bool.not_eq_true', Bool.not_eq_false', beq_iff_eq, beq_eq_false_iff_ne, AV.bool.injEq, AV.int.injEq, AV.t2.injEq, AV.t3.injEq, AV.own.injEq, List.cons.injEq, Prod.mk.injEq, Row.ints.injEq, RW, Row.nlen, scalar, imp_self, and_true, true_and, lexT, heldT, tailT, planT, nb, Int.toNat_zero, List.getD_cons_zero, List.getD_cons_succ, List.set_cons_zero, List.set_cons_succ, sq, sp3, sp2, sp, sb] at hc; exact hc
              omega
            have hsome := ruC_e HC.h hj
            (try simp only [nc] at *); subst hA hS hr hfr; simp (disch := (refine KR.mk ?_; kernel_rfl)) only [alg, obP_iff, condP_iff, retP_iff, retM_iff, ofNat_cast, nc, Int.toNat_natCast, decide_eq_true_eq, decide_eq_false_iff_not, wrap_w64, retS_iff, Bool.not_eq_true', Bool.not_eq_false', beq_iff_eq, beq_eq_false_iff_ne, AV.bool.injEq, AV.int.injEq, AV.t2.injEq, AV.t3.injEq, AV.own.injEq, List.cons.injEq, Prod.mk.injEq, Row.ints.injEq, RW, Row.nlen, scalar, imp_self, and_true, true_and, lexT, heldT, tailT, planT, nb, Int.toNat_zero, List.getD_cons_zero, List.getD_cons_succ, List.set_cons_zero, List.set_cons_succ, sq, sp3, sp2, sp, sb]
            simp [rzB, rzV, ruB, ruV, hsome, hk]
end Go.Proofs.Ythnbajdkimgigaa
