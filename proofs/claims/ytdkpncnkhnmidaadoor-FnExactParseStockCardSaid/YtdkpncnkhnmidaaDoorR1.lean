/-
  Stocks: the laws' own functions on slips; what a stock is; lengths, pieces, rests.
-/
import Derived.Test.YtdkpncnkhnmidaaDoorB0
import Derived.Test.YtdkpncnkhnmidaaDoorR0
set_option linter.unusedSimpArgs false
set_option linter.unusedVariables false
namespace Go.Proofs.YtdkpncnkhnmidaaDoor
open Go.Ab

theorem eqSlip_ok (a b : List Int) (ha : a.length = 2) (hb : b.length = 2) : FC Tryd.prog 15 [.rc 2 a, .rc 2 b] (.bool (eqR a b)) [] := by
  refine fc_eval sb B2 B2_ok hT hm Tryd.func15 rfl (by kernel_rfl) rfl rfl ?_
  intro A S r0 fr0 hA hS hr hfr
  cbv
  (try simp only [nc] at *); subst hA hS hr hfr; simp (disch := (refine KR.mk ?_; kernel_rfl)) only [alg, obP_iff, condP_iff, retP_iff, retM_iff, ofNat_cast, nc, Int.toNat_natCast, decide_eq_true_eq, decide_eq_false_iff_not, wrap_w64, retS_iff, Bool.not_eq_true', Bool.not_eq_false', beq_iff_eq, beq_eq_false_iff_ne, AV.bool.injEq, AV.int.injEq, AV.t2.injEq, AV.t3.injEq, AV.own.injEq, List.cons.injEq, Prod.mk.injEq, Row.ints.injEq, RW, Row.nlen, scalar, imp_self, and_true, true_and, lexT, heldT, tailT, planT, nb, Int.toNat_zero, List.getD_cons_zero, List.getD_cons_succ, List.set_cons_zero, List.set_cons_succ, sb, eqR]
  match a, ha, b, hb with
  | [a0, a1], _, [b0, b1], _ =>
    simp
    refine ⟨fun h h1 => absurd h1 h, fun h => ⟨fun h1 _ h2 => absurd h2 h1, fun h1 => ⟨h, h1⟩⟩⟩
theorem slB_ok (x : List Int) : FC Tryd.prog 25 [.rc 2 x] (.bool (slB x)) [] := by
  refine fc_eval sb B2 B2_ok hT hm Tryd.func25 rfl (by kernel_rfl) rfl rfl ?_
  intro A S r0 fr0 hA hS hr hfr
  cbv
  (try simp only [nc] at *); subst hA hS hr hfr; simp (disch := (refine KR.mk ?_; kernel_rfl)) only [alg, obP_iff, condP_iff, retP_iff, retM_iff, ofNat_cast, nc, Int.toNat_natCast, decide_eq_true_eq, decide_eq_false_iff_not, wrap_w64, retS_iff, Bool.not_eq_true', Bool.not_eq_false', beq_iff_eq, beq_eq_false_iff_ne, AV.bool.injEq, AV.int.injEq, AV.t2.injEq, AV.t3.injEq, AV.own.injEq, List.cons.injEq, Prod.mk.injEq, Row.ints.injEq, RW, Row.nlen, scalar, imp_self, and_true, true_and, lexT, heldT, tailT, planT, nb, Int.toNat_zero, List.getD_cons_zero, List.getD_cons_succ, List.set_cons_zero, List.set_cons_succ, sb, slB]
  try simp

def R1 (S : Sp) : List (Nat × (List AV → CR)) :=
  (15, fun args => match args with | [.rc 2 a, .rc 2 b] => .pure (S.r2 a ∧ S.r2 b) (.bool (S.eqR a b)) [] | _ => .no) ::
  (25, fun args => match args with | [.rc 2 x] => .pure (True) (.bool (S.slB x)) [] | _ => .no) ::
  B2 S.toSb
set_option maxRecDepth 100000 in
theorem R1_ok : TabOK Tryd.prog (tfind (R1 sp)) := by
  refine tab_cons (fun args => ?_) (tab_cons (fun args => ?_) (B2_ok))
  · split
    · exact ent_pure fun h => eqSlip_ok _ _ h.1 h.2
    · exact ent_no
  · split
    · exact ent_pure fun _ => slB_ok _
    · exact ent_no

theorem eqSS_ok (a b : List (List Int)) (ha3 : rec2 a) (hb3 : rec2 b) (ha : a.length ≤ 1048576) : FC Tryd.prog 6 [.ro (.recs 2 a), .ro (.recs 2 b)] (.bool (eqRL a b)) [] := by
  refine fc_eval sp R1 R1_ok hT hm Tryd.func6 rfl (by kernel_rfl) rfl rfl ?_
  intro A S r0 fr0 hA hS hr hfr
  cbv
  constructor
  · intro hc
    subst hA hS hr hfr
    have : a ≠ b := by intro e; subst e; simp [alg] at hc
    simp [alg, obP_iff, condP_iff, retP_iff, retM_iff, ofNat_cast, nc, Int.toNat_natCast, decide_eq_true_eq, decide_eq_false_iff_not, wrap_w64, retS_iff, Bool.not_eq_true', Bool.not_eq_false', beq_iff_eq, beq_eq_false_iff_ne, AV.bool.injEq, AV.int.injEq, AV.t2.injEq, AV.t3.injEq, AV.own.injEq, List.cons.injEq, Prod.mk.injEq, Row.ints.injEq, RW, Row.nlen, scalar, imp_self, and_true, true_and, lexT, heldT, tailT, planT, nb, Int.toNat_zero, List.getD_cons_zero, List.getD_cons_succ, List.set_cons_zero, List.set_cons_succ, eqRL, this]
  · intro hc
    have hl : a.length = b.length := by subst hA; simp [alg] at hc; omega
    refine loop1 (fun (i : Nat) => ⟨fr 27 [(0, .ro (.recs 2 a)), (1, .ro (.recs 2 b)), (5, .int .i64 i)], [.dead]⟩)
      (fun i => i ≤ a.length ∧ a.take i = b.take i) (fun i => a.length - i) 0 ?_ ?_ ?_
    · subst hA; simp [Wk_iff, fr, undefs, wkT, wkV, wkH, okid, Row.nlen, Row.rk, RK.rowk, w64_eq, getO, alg]
    · simp
    · rintro i ⟨h1, h2⟩
      cbv
      (try simp only [nc] at *); subst hA hS hr hfr; simp (disch := (refine KR.mk ?_; kernel_rfl)) only [alg, obP_iff, condP_iff, retP_iff, retM_iff, ofNat_cast, nc, Int.toNat_natCast, decide_eq_true_eq, decide_eq_false_iff_not, wrap_w64, retS_iff, Bool.not_eq_true', Bool.not_eq_false', beq_iff_eq, beq_eq_false_iff_ne, AV.bool.injEq, AV.int.injEq, AV.t2.injEq, AV.t3.injEq, AV.own.injEq, List.cons.injEq, Prod.mk.injEq, Row.ints.injEq, RW, Row.nlen, scalar, imp_self, and_true, true_and, lexT, heldT, tailT, planT, nb, Int.toNat_zero, List.getD_cons_zero, List.getD_cons_succ, List.set_cons_zero, List.set_cons_succ, sp, sb]
      have hg : ∀ l : List (List Int), rec2 l → i < l.length → (l.getD i []).length = 2 := fun l h hi => by
        obtain ⟨x, y, e⟩ := rec2_get h hi
        rw [e]; rfl
      refine ⟨fun hi => ⟨by omega, by omega, ⟨hg a ha3 (by omega), hg b hb3 (by omega)⟩, fun hn => ?_, fun hn => ⟨i + 1, ?_, ⟨by omega, ?_⟩, by omega⟩⟩, fun hi => ?_⟩
      · have : a ≠ b := by intro e; subst e; simp [eqR] at hn
        simp [eqRL, this]
      · simp [Wk_iff, fr, undefs, wkT, wkV, wkH, okid, Row.nlen, Row.rk, RK.rowk, w64_eq, getO]; try omega
      · simp only [eqR, decide_eq_true_eq] at hn
        rw [take_getD [] _ _ (by omega), take_getD [] _ _ (by omega), h2, hn]
      · have : a = b := take_all hl (by omega) h2
        simp [eqRL, this]
theorem markS_ok (a : List (List Int)) (k : Int) (ha3 : rec2 a) (ha : a.length ≤ 1048576) (hk : 0 ≤ k ∧ k ≤ 4611686018427387904) : FCM Tryd.prog 7 [.ro (.recs 2 a), .int .i64 k] 0 (.int .i64 (k + 2 * a.length)) (.recs 2 (upR a.length k)) := by
  refine fcm_eval () (fun _ => []) (tab_nil _) hT hm 0 Tryd.func7 rfl (by kernel_rfl) rfl rfl rfl rfl ?_ rfl ?_
  · simp [nl, Row.nlen, alg, upR_len]
  intro A S r0 row0 E hA hS hr hfr
  cbv
  refine loop3 (fun (i : Nat) (q : Int) (out : List (List Int)) => ⟨fr 27 [(0, .own 0 true), (1, .int .i64 q), (5, .int .i64 i)], [.row E (.recs 2 out)]⟩)
    (fun i q out => i ≤ a.length ∧ q = k + 2 * i ∧ out.length = a.length ∧ rec2 out ∧ out.take i = (upR a.length k).take i) (fun i _ _ => a.length - i) 0 k a ?_ ?_ ?_
  · subst hA; simp [Wk_iff, fr, undefs, wkT, wkV, wkH, okid, Row.nlen, Row.rk, RK.rowk, w64_eq, getO, alg]
  · simp [ha3]
  · rintro i q out ⟨h1, hq, h2, hr3, h3⟩
    cbv
    (try simp only [nc] at *); subst hA hr hfr; simp (disch := (refine KR.mk ?_; kernel_rfl)) only [alg, obP_iff, condP_iff, retP_iff, retM_iff, ofNat_cast, nc, Int.toNat_natCast, decide_eq_true_eq, decide_eq_false_iff_not, wrap_w64, retS_iff, Bool.not_eq_true', Bool.not_eq_false', beq_iff_eq, beq_eq_false_iff_ne, AV.bool.injEq, AV.int.injEq, AV.t2.injEq, AV.t3.injEq, AV.own.injEq, List.cons.injEq, Prod.mk.injEq, Row.ints.injEq, RW, Row.nlen, scalar, imp_self, and_true, true_and, lexT, heldT, tailT, planT, nb, Int.toNat_zero, List.getD_cons_zero, List.getD_cons_succ, List.set_cons_zero, List.set_cons_succ]
    refine ⟨fun hi => ⟨by omega, by simp; omega, i + 1, q + 2, out.set i [q, q + 1], ?_, ⟨by omega, by omega, by simp [h2], rec2_set hr3 _ rfl, ?_⟩, by omega⟩, fun hi => ?_⟩
    · have w1 : w64 (q + 1) = q + 1 := w64_id (by omega)
      have w2 : w64 (q + 1 + 1) = q + 2 := by rw [w64_id (by omega)]; omega
      have w4 : w64 ((i : Int) + 1) = ((i + 1 : Nat) : Int) := by rw [w64_id (by omega)]; omega
      simp only [w1, w2, w4, Int.toNat_natCast]
      rw [mark2 out i (by omega) hr3]
      simp [Wk_iff, fr, undefs, wkT, wkV, wkH, okid, Row.nlen, Row.rk, RK.rowk, getO]
    · have := set_step [] (upR a.length k) out i (by rw [upR_len]; omega) (by rw [upR_len]; omega) h3
      rw [upR_get _ _ _ (by omega), ← hq] at this
      exact this
    · rw [take_all (by rw [upR_len]; omega) (by rw [upR_len]; omega) h3]
      have : i = a.length := by omega
      subst this
      exact ⟨by rw [hq], rfl⟩
theorem heldS_ok (a : List (List Int)) (k : Int) (ha3 : rec2 a) (ha : a.length ≤ 1048576) (hk : 0 ≤ k ∧ k ≤ 4611686018427387904) : FC Tryd.prog 8 [.ro (.recs 2 a), .int .i64 k] (.int .i64 (heldR a k)) [] := by
  refine fc_eval sp R1 R1_ok hT hm Tryd.func8 rfl (by kernel_rfl) rfl rfl ?_
  intro A S r0 fr0 hA hS hr hfr
  cbv
  refine loop2 (fun (i : Nat) (q : Int) => ⟨fr 31 [(0, .ro (.recs 2 a)), (1, .int .i64 q), (5, .int .i64 i)], [.dead]⟩)
    (fun i q => i ≤ a.length ∧ q = k + 2 * i ∧ heldR a k = heldR (a.drop i) q) (fun i _ => a.length - i) 0 k ?_ ?_ ?_
  · subst hA; simp [Wk_iff, fr, undefs, wkT, wkV, wkH, okid, Row.nlen, Row.rk, RK.rowk, w64_eq, getO, alg]
  · simp
  · rintro i q ⟨h1, hq, h2⟩
    cbv
    (try simp only [nc] at *); subst hA hS hr hfr; simp (disch := (refine KR.mk ?_; kernel_rfl)) only [alg, obP_iff, condP_iff, retP_iff, retM_iff, ofNat_cast, nc, Int.toNat_natCast, decide_eq_true_eq, decide_eq_false_iff_not, wrap_w64, retS_iff, Bool.not_eq_true', Bool.not_eq_false', beq_iff_eq, beq_eq_false_iff_ne, AV.bool.injEq, AV.int.injEq, AV.t2.injEq, AV.t3.injEq, AV.own.injEq, List.cons.injEq, Prod.mk.injEq, Row.ints.injEq, RW, Row.nlen, scalar, imp_self, and_true, true_and, lexT, heldT, tailT, planT, nb, Int.toNat_zero, List.getD_cons_zero, List.getD_cons_succ, List.set_cons_zero, List.set_cons_succ, sp, sb]
    refine ⟨fun hi => ?_, fun hi => ?_⟩
    · obtain ⟨x, y, e⟩ := rec2_get ha3 (i := i) (by omega)
      have w1 : w64 (q + 1) = q + 1 := w64_id (by omega)
      have w2 : w64 (q + 1 + 1) = q + 2 := by rw [w64_id (by omega)]; omega
      have hd := heldR_drop a q i (by omega)
      rw [e] at hd
      simp only [w1, w2, e, List.getD_cons_zero, List.getD_cons_succ]
      refine ⟨by omega, fun hn => ?_, fun hn => ⟨by omega, fun hn2 => ?_, fun hn2 => ⟨i + 1, q + 2, ?_, ⟨by omega, by omega, ?_⟩, by omega⟩⟩⟩
      · rw [h2, hd, if_neg (by simp [hn])]
      · rw [h2, hd, if_neg (by simp [hn2])]
      · simp [Wk_iff, fr, undefs, wkT, wkV, wkH, okid, Row.nlen, Row.rk, RK.rowk, w64_eq, getO]; try omega
      · rw [h2, hd, if_pos (by simp [hn, hn2])]
    · rw [h2, List.drop_of_length_le (by omega)]; rfl

set_option maxRecDepth 100000 in
theorem implSt_ok (l : List (List Int)) (hl : l.length ≤ 1048576) : FC Tryd.prog 13 [.ro (.recs 2 l)] (.bool (stB l)) [] := by
  refine fc_eval sp R1 R1_ok hT hm Tryd.func13 rfl (by kernel_rfl) rfl rfl ?_
  intro A S r0 fr0 hA hS hr hfr
  cbv
  obtain ⟨L, hL⟩ : ∃ L : Int, L = l.length := ⟨_, rfl⟩
  refine loop1 (fun (i : Nat) => ⟨fr 41 [(0, .ro (.recs 2 l)), (5, .ro (.recs 2 l)), (6, .int .i64 L), (7, .int .i64 i)], [.dead]⟩)
    (fun i => i ≤ l.length ∧ goodTo l i = true) (fun i => l.length - i) 0 ?_ ?_ ?_
  · subst hA; simp [Wk_iff, fr, undefs, wkT, wkV, wkH, okid, Row.nlen, Row.rk, RK.rowk, w64_eq, getO, alg, hL]
  · simp [goodTo]
  · rintro i ⟨h1, h2⟩
    cbv
    (try simp only [nc] at *); subst hA hS hr hfr; simp (disch := (refine KR.mk ?_; kernel_rfl)) only [alg, obP_iff, condP_iff, retP_iff, retM_iff, ofNat_cast, nc, Int.toNat_natCast, decide_eq_true_eq, decide_eq_false_iff_not, wrap_w64, retS_iff, Bool.not_eq_true', Bool.not_eq_false', beq_iff_eq, beq_eq_false_iff_ne, AV.bool.injEq, AV.int.injEq, AV.t2.injEq, AV.t3.injEq, AV.own.injEq, List.cons.injEq, Prod.mk.injEq, Row.ints.injEq, RW, Row.nlen, scalar, imp_self, and_true, true_and, lexT, heldT, tailT, planT, nb, Int.toNat_zero, List.getD_cons_zero, List.getD_cons_succ, List.set_cons_zero, List.set_cons_succ, sp, sb]
    have gi : ∀ b : Bool, (b || (decide (0 < (i : Int)) && decide (fL l i ≤ (l.getD (w64 ((i : Int) - 1)).toNat []).getD 0 0))) = (b || (decide (0 < (i : Int)) && decide (fL l i ≤ fL l (i - 1)))) := by
      intro b
      by_cases h0 : 0 < (i : Int)
      · have e : (w64 ((i : Int) - 1)).toNat = i - 1 := by rw [w64_id (by omega)]; omega
        rw [e]; rfl
      · rw [decide_eq_false h0]; rfl
    refine ⟨fun hi => ⟨by omega, fun _ => trivial, fun hg => ?_, fun (hb : (!(slB (l.getD i [])) || (decide (0 < (i : Int)) && decide (fL l i ≤ (l.getD (w64 ((i : Int) - 1)).toNat []).getD 0 0))) = true) => ?_, fun (hb : (!(slB (l.getD i [])) || (decide (0 < (i : Int)) && decide (fL l i ≤ (l.getD (w64 ((i : Int) - 1)).toNat []).getD 0 0))) = false) => ⟨i + 1, ?_, ⟨by omega, ?_⟩, by omega⟩⟩, fun hi => ?_⟩
    · have h0 : 0 < (i : Int) := by
        simp only [Bool.and_eq_true, decide_eq_true_eq] at hg; exact hg.2
      rw [w64_id (by omega)]; omega
    · rw [gi] at hb
      have : goodTo l l.length = false := goodTo_bad (i := i) (by omega) hb
      rw [stB, this]; rfl
    · simp [Wk_iff, fr, undefs, wkT, wkV, wkH, okid, Row.nlen, Row.rk, RK.rowk, w64_eq, getO]; try omega
    · rw [gi] at hb
      have hb : badAt l i = false := hb
      rw [goodTo_succ, h2, hb]; rfl
    · have : i = l.length := by omega
      subst this
      rw [stB, h2]; rfl
theorem specSt_ok (l : List (List Int)) (hl : l.length ≤ 1048576) : FC Tryd.prog 17 [.ro (.recs 2 l)] (.bool (stB l)) [] := by
  refine fc_eval sp R1 R1_ok hT hm Tryd.func17 rfl (by kernel_rfl) rfl rfl ?_
  intro A S r0 fr0 hA hS hr hfr
  cbv
  obtain ⟨L, hL⟩ : ∃ L : Int, L = l.length := ⟨_, rfl⟩
  refine loop1 (fun (i : Nat) => ⟨fr 34 [(0, .ro (.recs 2 l)), (5, .ro (.recs 2 l)), (6, .int .i64 L), (7, .int .i64 i)], [.dead]⟩)
    (fun i => i ≤ l.length ∧ goodTo l i = true) (fun i => l.length - i) 0 ?_ ?_ ?_
  · subst hA; simp [Wk_iff, fr, undefs, wkT, wkV, wkH, okid, Row.nlen, Row.rk, RK.rowk, w64_eq, getO, alg, hL]
  · simp [goodTo]
  · rintro i ⟨h1, h2⟩
    cbv
    (try simp only [nc] at *); subst hA hS hr hfr; simp (disch := (refine KR.mk ?_; kernel_rfl)) only [alg, obP_iff, condP_iff, retP_iff, retM_iff, ofNat_cast, nc, Int.toNat_natCast, decide_eq_true_eq, decide_eq_false_iff_not, wrap_w64, retS_iff, Bool.not_eq_true', Bool.not_eq_false', beq_iff_eq, beq_eq_false_iff_ne, AV.bool.injEq, AV.int.injEq, AV.t2.injEq, AV.t3.injEq, AV.own.injEq, List.cons.injEq, Prod.mk.injEq, Row.ints.injEq, RW, Row.nlen, scalar, imp_self, and_true, true_and, lexT, heldT, tailT, planT, nb, Int.toNat_zero, List.getD_cons_zero, List.getD_cons_succ, List.set_cons_zero, List.set_cons_succ, sp, sb]
    have gi : ∀ b : Bool, (b || (decide (0 < (i : Int)) && decide (fL l i ≤ (l.getD (w64 ((i : Int) - 1)).toNat []).getD 0 0))) = (b || (decide (0 < (i : Int)) && decide (fL l i ≤ fL l (i - 1)))) := by
      intro b
      by_cases h0 : 0 < (i : Int)
      · have e : (w64 ((i : Int) - 1)).toNat = i - 1 := by rw [w64_id (by omega)]; omega
        rw [e]; rfl
      · rw [decide_eq_false h0]; rfl
    refine ⟨fun hi => ⟨by omega,  fun hg => ?_, fun (hb : (!(slB (l.getD i [])) || (decide (0 < (i : Int)) && decide (fL l i ≤ (l.getD (w64 ((i : Int) - 1)).toNat []).getD 0 0))) = true) => ?_, fun (hb : (!(slB (l.getD i [])) || (decide (0 < (i : Int)) && decide (fL l i ≤ (l.getD (w64 ((i : Int) - 1)).toNat []).getD 0 0))) = false) => ⟨i + 1, ?_, ⟨by omega, ?_⟩, by omega⟩⟩, fun hi => ?_⟩
    · have h0 : 0 < (i : Int) := by
        simp only [Bool.and_eq_true, decide_eq_true_eq] at hg; exact hg.2
      rw [w64_id (by omega)]; omega
    · rw [gi] at hb
      have : goodTo l l.length = false := goodTo_bad (i := i) (by omega) hb
      rw [stB, this]; rfl
    · simp [Wk_iff, fr, undefs, wkT, wkV, wkH, okid, Row.nlen, Row.rk, RK.rowk, w64_eq, getO]; try omega
    · rw [gi] at hb
      have hb : badAt l i = false := hb
      rw [goodTo_succ, h2, hb]; rfl
    · have : i = l.length := by omega
      subst this
      rw [stB, h2]; rfl

def R2 (S : Sp) : List (Nat × (List AV → CR)) :=
  (13, fun args => match args with | [.ro (.recs 2 l)] => .pure (S.lm l) (.bool (S.stB l)) [] | _ => .no) ::
  (17, fun args => match args with | [.ro (.recs 2 l)] => .pure (S.lm l) (.bool (S.stB l)) [] | _ => .no) ::
  R1 S
set_option maxRecDepth 100000 in
theorem R2_ok : TabOK Tryd.prog (tfind (R2 sp)) := by
  refine tab_cons (fun args => ?_) (tab_cons (fun args => ?_) (R1_ok))
  · split
    · exact ent_pure fun h => implSt_ok _ h
    · exact ent_no
  · split
    · exact ent_pure fun h => specSt_ok _ h
    · exact ent_no
end Go.Proofs.YtdkpncnkhnmidaaDoor
