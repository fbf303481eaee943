/-
  Tables: the laws' own functions on entries, and what a table is.
-/
import Derived.Test.YtlfioonmofkpiaaB0
import Derived.Test.YtlfioonmofkpiaaT0
set_option linter.unusedSimpArgs false
set_option linter.unusedVariables false
namespace Go.Proofs.Ytlfioonmofkpiaa
open Go.Ab

theorem szE_ok (l : List (List Int)) (k : Int) : FC Try.prog 14 [.ro (.recs 3 l), .int .i64 k] (.int .i64 (szV k l.length)) [] := by
  refine fc_eval sb B2 B2_ok hT hm Try.func14 rfl (by kernel_rfl) rfl rfl ?_
  intro A S r0 fr0 hA hS hr hfr
  cbv
  (try simp only [nc] at *); subst hA hS hr hfr; simp (disch := (refine KR.mk ?_; kernel_rfl)) only [alg, obP_iff, condP_iff, retP_iff, retM_iff, ofNat_cast, nc, Int.toNat_natCast, decide_eq_true_eq, decide_eq_false_iff_not, wrap_w64, Bool.not_eq_true', Bool.not_eq_false', beq_iff_eq, beq_eq_false_iff_ne, AV.bool.injEq, AV.int.injEq, AV.t2.injEq, AV.t3.injEq, AV.own.injEq, List.cons.injEq, Prod.mk.injEq, Row.ints.injEq, RW, Row.nlen, scalar, imp_self, and_true, true_and, lexT, heldT, tailT, planT, nb, Int.toNat_zero, List.getD_cons_zero, List.getD_cons_succ, List.set_cons_zero, List.set_cons_succ, sb, szV]
  refine ⟨fun h => ?_, fun h => ?_⟩ <;> simp [h]
theorem toEntry_ok (r : List Int) (hr3 : r.length = 3) : FC Try.prog 20 [.rc 3 r] (.rc 3 r) [] := by
  refine fc_eval sb B2 B2_ok hT hm Try.func20 rfl (by kernel_rfl) rfl rfl ?_
  intro A S r0 fr0 hA hS hr hfr
  cbv
  (try simp only [nc] at *); subst hA hS hr hfr; simp (disch := (refine KR.mk ?_; kernel_rfl)) only [alg, obP_iff, condP_iff, retP_iff, retM_iff, ofNat_cast, nc, Int.toNat_natCast, decide_eq_true_eq, decide_eq_false_iff_not, wrap_w64, Bool.not_eq_true', Bool.not_eq_false', beq_iff_eq, beq_eq_false_iff_ne, AV.bool.injEq, AV.int.injEq, AV.t2.injEq, AV.t3.injEq, AV.own.injEq, List.cons.injEq, Prod.mk.injEq, Row.ints.injEq, RW, Row.nlen, scalar, imp_self, and_true, true_and, lexT, heldT, tailT, planT, nb, Int.toNat_zero, List.getD_cons_zero, List.getD_cons_succ, List.set_cons_zero, List.set_cons_succ, sb]
  match r, hr3 with
  | [a, b, c], _ => simp
theorem eqEntry_ok (a b : List Int) (ha : a.length = 3) (hb : b.length = 3) : FC Try.prog 48 [.rc 3 a, .rc 3 b] (.bool (eqR a b)) [] := by
  refine fc_eval sb B2 B2_ok hT hm Try.func48 rfl (by kernel_rfl) rfl rfl ?_
  intro A S r0 fr0 hA hS hr hfr
  cbv
  (try simp only [nc] at *); subst hA hS hr hfr; simp (disch := (refine KR.mk ?_; kernel_rfl)) only [alg, obP_iff, condP_iff, retP_iff, retM_iff, ofNat_cast, nc, Int.toNat_natCast, decide_eq_true_eq, decide_eq_false_iff_not, wrap_w64, Bool.not_eq_true', Bool.not_eq_false', beq_iff_eq, beq_eq_false_iff_ne, AV.bool.injEq, AV.int.injEq, AV.t2.injEq, AV.t3.injEq, AV.own.injEq, List.cons.injEq, Prod.mk.injEq, Row.ints.injEq, RW, Row.nlen, scalar, imp_self, and_true, true_and, lexT, heldT, tailT, planT, nb, Int.toNat_zero, List.getD_cons_zero, List.getD_cons_succ, List.set_cons_zero, List.set_cons_succ, sb, eqR]
  match a, ha, b, hb with
  | [a0, a1, a2], _, [b0, b1, b2], _ =>
    simp
    refine ⟨fun h h1 => absurd h1 h, fun h => ⟨fun h1 _ h2 => absurd h2 h1, fun h1 => ⟨fun h2 _ _ => h2, fun h2 => ⟨h, h1, h2⟩⟩⟩⟩

def A1 (S : St0) : List (Nat × (List AV → CR)) :=
  (20, fun args => match args with | [.rc 3 r] => .pure (S.r3 r) (.rc 3 r) [] | _ => .no) ::
  (48, fun args => match args with | [.rc 3 a, .rc 3 b] => .pure (S.r3 a ∧ S.r3 b) (.bool (S.eqR a b)) [] | _ => .no) ::
  B2 S.toSb
set_option maxRecDepth 100000 in
theorem A1_ok : TabOK Try.prog (tfind (A1 sp)) := by
  refine tab_cons (fun args => ?_) (tab_cons (fun args => ?_) (B2_ok))
  · split
    · exact ent_pure fun h => toEntry_ok _ h
    · exact ent_no
  · split
    · exact ent_pure fun h => eqEntry_ok _ _ h.1 h.2
    · exact ent_no

theorem toES_ok (l : List (List Int)) (h : rec3 l) (hl : l.length ≤ 1048576) : FC Try.prog 16 [.ro (.recs 3 l)] (.own 0 false) [(33, .recs 3 l)] := by
  refine fc_eval sp A1 A1_ok hT hm Try.func16 rfl (by kernel_rfl) rfl rfl ?_
  intro A S r0 fr0 hA hS hr hfr
  cbv
  refine ⟨by subst hA; simp only [alg]; omega, ⟨by subst hA; simp [alg], ?_⟩⟩
  refine loop2 (fun (i : Nat) (out : List (List Int)) => ⟨fr 23 [(0, .ro (.recs 3 l)), (3, .own 1 false), (4, .int .i64 i)], [.dead, .row 33 (.recs 3 out)]⟩)
    (fun i out => i ≤ l.length ∧ out.length = l.length ∧ out.take i = l.take i) (fun i _ => l.length - i) 0 (List.replicate l.length [0, 0, 0]) ?_ ?_ ?_
  · subst hA; simp [Wk_iff, fr, undefs, wkT, wkV, wkH, okid, Row.nlen, w64_eq, getO, alg]
  · simp
  · rintro i out ⟨h1, h2, h3⟩
    cbv
    (try simp only [nc] at *); subst hA hS hr hfr; simp (disch := (refine KR.mk ?_; kernel_rfl)) only [alg, obP_iff, condP_iff, retP_iff, retM_iff, ofNat_cast, nc, Int.toNat_natCast, decide_eq_true_eq, decide_eq_false_iff_not, wrap_w64, Bool.not_eq_true', Bool.not_eq_false', beq_iff_eq, beq_eq_false_iff_ne, AV.bool.injEq, AV.int.injEq, AV.t2.injEq, AV.t3.injEq, AV.own.injEq, List.cons.injEq, Prod.mk.injEq, Row.ints.injEq, RW, Row.nlen, scalar, imp_self, and_true, true_and, lexT, heldT, tailT, planT, nb, Int.toNat_zero, List.getD_cons_zero, List.getD_cons_succ, List.set_cons_zero, List.set_cons_succ, sp, sb]
    refine ⟨fun hi => ⟨by omega, ?_, by omega, i + 1, out.set i (l.getD i []), ?_, ⟨by omega, by simp [h2], set_step _ _ _ _ h2 (by omega) h3⟩, by omega⟩, fun hi => ?_⟩
    · obtain ⟨x, y, z, e⟩ := rec3_get h (i := i) (by omega)
      rw [e]; rfl
    · simp [Wk_iff, fr, undefs, wkT, wkV, wkH, okid, Row.nlen, w64_eq, getO]; try omega
    · rw [take_all h2 (by omega) h3]
theorem eqES_ok (a b : List (List Int)) (ha3 : rec3 a) (hb3 : rec3 b) (ha : a.length ≤ 1048576) : FC Try.prog 18 [.ro (.recs 3 a), .ro (.recs 3 b)] (.bool (eqRL a b)) [] := by
  refine fc_eval sp A1 A1_ok hT hm Try.func18 rfl (by kernel_rfl) rfl rfl ?_
  intro A S r0 fr0 hA hS hr hfr
  cbv
  constructor
  · intro hc
    subst hA hS hr hfr
    have : a ≠ b := by intro e; subst e; simp [alg] at hc
    simp [alg, obP_iff, condP_iff, retP_iff, retM_iff, ofNat_cast, nc, Int.toNat_natCast, decide_eq_true_eq, decide_eq_false_iff_not, wrap_w64, Bool.not_eq_true', Bool.not_eq_false', beq_iff_eq, beq_eq_false_iff_ne, AV.bool.injEq, AV.int.injEq, AV.t2.injEq, AV.t3.injEq, AV.own.injEq, List.cons.injEq, Prod.mk.injEq, Row.ints.injEq, RW, Row.nlen, scalar, imp_self, and_true, true_and, lexT, heldT, tailT, planT, nb, Int.toNat_zero, List.getD_cons_zero, List.getD_cons_succ, List.set_cons_zero, List.set_cons_succ, eqRL, this]
  · intro hc
    have hl : a.length = b.length := by subst hA; simp [alg] at hc; omega
    refine loop1 (fun (i : Nat) => ⟨fr 27 [(0, .ro (.recs 3 a)), (1, .ro (.recs 3 b)), (5, .int .i64 i)], [.dead]⟩)
      (fun i => i ≤ a.length ∧ a.take i = b.take i) (fun i => a.length - i) 0 ?_ ?_ ?_
    · subst hA; simp [Wk_iff, fr, undefs, wkT, wkV, wkH, okid, Row.nlen, w64_eq, getO, alg]
    · simp
    · rintro i ⟨h1, h2⟩
      cbv
      (try simp only [nc] at *); subst hA hS hr hfr; simp (disch := (refine KR.mk ?_; kernel_rfl)) only [alg, obP_iff, condP_iff, retP_iff, retM_iff, ofNat_cast, nc, Int.toNat_natCast, decide_eq_true_eq, decide_eq_false_iff_not, wrap_w64, Bool.not_eq_true', Bool.not_eq_false', beq_iff_eq, beq_eq_false_iff_ne, AV.bool.injEq, AV.int.injEq, AV.t2.injEq, AV.t3.injEq, AV.own.injEq, List.cons.injEq, Prod.mk.injEq, Row.ints.injEq, RW, Row.nlen, scalar, imp_self, and_true, true_and, lexT, heldT, tailT, planT, nb, Int.toNat_zero, List.getD_cons_zero, List.getD_cons_succ, List.set_cons_zero, List.set_cons_succ, sp, sb]
      have hg : ∀ l : List (List Int), rec3 l → i < l.length → (l.getD i []).length = 3 := fun l h hi => by
        obtain ⟨x, y, z, e⟩ := rec3_get h hi
        rw [e]; rfl
      refine ⟨fun hi => ⟨by omega, by omega, ⟨hg a ha3 (by omega), hg b hb3 (by omega)⟩, fun hn => ?_, fun hn => ⟨i + 1, ?_, ⟨by omega, ?_⟩, by omega⟩⟩, fun hi => ?_⟩
      · have : a ≠ b := by intro e; subst e; simp [eqR] at hn
        simp [eqRL, this]
      · simp [Wk_iff, fr, undefs, wkT, wkV, wkH, okid, Row.nlen, w64_eq, getO]; try omega
      · simp only [eqR, decide_eq_true_eq] at hn
        rw [take_getD [] _ _ (by omega), take_getD [] _ _ (by omega), h2, hn]
      · have : a = b := take_all hl (by omega) h2
        simp [eqRL, this]
theorem markE_ok (a : List (List Int)) (k : Int) (ha3 : rec3 a) (ha : a.length ≤ 1048576) (hk : 0 ≤ k ∧ k ≤ 4611686018427387904) : FCM Try.prog 22 [.ro (.recs 3 a), .int .i64 k] 0 (.int .i64 (k + 3 * a.length)) (.recs 3 (upR a.length k)) := by
  refine fcm_eval () (fun _ => []) (tab_nil _) hT hm 0 Try.func22 rfl (by kernel_rfl) rfl rfl rfl rfl ?_ rfl ?_
  · simp [nl, Row.nlen, alg, upR_len]
  intro A S r0 row0 E hA hS hr hfr
  cbv
  refine loop3 (fun (i : Nat) (q : Int) (out : List (List Int)) => ⟨fr 34 [(0, .own 0 true), (1, .int .i64 q), (5, .int .i64 i)], [.row E (.recs 3 out)]⟩)
    (fun i q out => i ≤ a.length ∧ q = k + 3 * i ∧ out.length = a.length ∧ rec3 out ∧ out.take i = (upR a.length k).take i) (fun i _ _ => a.length - i) 0 k a ?_ ?_ ?_
  · subst hA; simp [Wk_iff, fr, undefs, wkT, wkV, wkH, okid, Row.nlen, w64_eq, getO, alg]
  · simp [ha3]
  · rintro i q out ⟨h1, hq, h2, hr3, h3⟩
    cbv
    (try simp only [nc] at *); subst hA hr hfr; simp (disch := (refine KR.mk ?_; kernel_rfl)) only [alg, obP_iff, condP_iff, retP_iff, retM_iff, ofNat_cast, nc, Int.toNat_natCast, decide_eq_true_eq, decide_eq_false_iff_not, wrap_w64, Bool.not_eq_true', Bool.not_eq_false', beq_iff_eq, beq_eq_false_iff_ne, AV.bool.injEq, AV.int.injEq, AV.t2.injEq, AV.t3.injEq, AV.own.injEq, List.cons.injEq, Prod.mk.injEq, Row.ints.injEq, RW, Row.nlen, scalar, imp_self, and_true, true_and, lexT, heldT, tailT, planT, nb, Int.toNat_zero, List.getD_cons_zero, List.getD_cons_succ, List.set_cons_zero, List.set_cons_succ]
    refine ⟨fun hi => ⟨by omega, by simp; omega, by simp; omega, i + 1, q + 3, out.set i [q, q + 1, q + 2], ?_, ⟨by omega, by omega, by simp [h2], rec3_set hr3 _ rfl, ?_⟩, by omega⟩, fun hi => ?_⟩
    · have w1 : w64 (q + 1) = q + 1 := w64_id (by omega)
      have w2 : w64 (q + 1 + 1) = q + 2 := by rw [w64_id (by omega)]; omega
      have w3 : w64 (q + 2 + 1) = q + 3 := by rw [w64_id (by omega)]; omega
      have w4 : w64 ((i : Int) + 1) = ((i + 1 : Nat) : Int) := by rw [w64_id (by omega)]; omega
      simp only [w1, w2, w3, w4, Int.toNat_natCast]
      rw [mark3 out i (by omega) hr3]
      simp [Wk_iff, fr, undefs, wkT, wkV, wkH, okid, Row.nlen, getO]
    · have := set_step [] (upR a.length k) out i (by rw [upR_len]; omega) (by rw [upR_len]; omega) h3
      rw [upR_get _ _ _ (by omega), ← hq] at this
      exact this
    · rw [take_all (by rw [upR_len]; omega) (by rw [upR_len]; omega) h3]
      have : i = a.length := by omega
      subst this
      exact ⟨by rw [hq], rfl⟩
theorem heldE_ok (a : List (List Int)) (k : Int) (ha3 : rec3 a) (ha : a.length ≤ 1048576) (hk : 0 ≤ k ∧ k ≤ 4611686018427387904) : FC Try.prog 23 [.ro (.recs 3 a), .int .i64 k] (.int .i64 (heldR a k)) [] := by
  refine fc_eval sp A1 A1_ok hT hm Try.func23 rfl (by kernel_rfl) rfl rfl ?_
  intro A S r0 fr0 hA hS hr hfr
  cbv
  refine loop2 (fun (i : Nat) (q : Int) => ⟨fr 40 [(0, .ro (.recs 3 a)), (1, .int .i64 q), (5, .int .i64 i)], [.dead]⟩)
    (fun i q => i ≤ a.length ∧ q = k + 3 * i ∧ heldR a k = heldR (a.drop i) q) (fun i _ => a.length - i) 0 k ?_ ?_ ?_
  · subst hA; simp [Wk_iff, fr, undefs, wkT, wkV, wkH, okid, Row.nlen, w64_eq, getO, alg]
  · simp
  · rintro i q ⟨h1, hq, h2⟩
    cbv
    (try simp only [nc] at *); subst hA hS hr hfr; simp (disch := (refine KR.mk ?_; kernel_rfl)) only [alg, obP_iff, condP_iff, retP_iff, retM_iff, ofNat_cast, nc, Int.toNat_natCast, decide_eq_true_eq, decide_eq_false_iff_not, wrap_w64, Bool.not_eq_true', Bool.not_eq_false', beq_iff_eq, beq_eq_false_iff_ne, AV.bool.injEq, AV.int.injEq, AV.t2.injEq, AV.t3.injEq, AV.own.injEq, List.cons.injEq, Prod.mk.injEq, Row.ints.injEq, RW, Row.nlen, scalar, imp_self, and_true, true_and, lexT, heldT, tailT, planT, nb, Int.toNat_zero, List.getD_cons_zero, List.getD_cons_succ, List.set_cons_zero, List.set_cons_succ, sp, sb]
    refine ⟨fun hi => ?_, fun hi => ?_⟩
    · obtain ⟨x, y, z, e⟩ := rec3_get ha3 (i := i) (by omega)
      have w1 : w64 (q + 1) = q + 1 := w64_id (by omega)
      have w2 : w64 (q + 1 + 1) = q + 2 := by rw [w64_id (by omega)]; omega
      have w3 : w64 (q + 2 + 1) = q + 3 := by rw [w64_id (by omega)]; omega
      have hd := heldR_drop a q i (by omega)
      rw [e] at hd
      simp only [w1, w2, w3, e, List.getD_cons_zero, List.getD_cons_succ]
      refine ⟨by omega, fun hn => ?_, fun hn => ⟨by omega, fun hn2 => ?_, fun hn2 => ⟨by omega, fun hn3 => ?_, fun hn3 => ⟨i + 1, q + 3, ?_, ⟨by omega, by omega, ?_⟩, by omega⟩⟩⟩⟩
      · rw [h2, hd, if_neg (by simp [hn])]
      · rw [h2, hd, if_neg (by simp [hn2])]
      · rw [h2, hd, if_neg (by simp [hn3])]
      · simp [Wk_iff, fr, undefs, wkT, wkV, wkH, okid, Row.nlen, w64_eq, getO]; try omega
      · rw [h2, hd, if_pos (by simp [hn, hn2, hn3])]
    · rw [h2, List.drop_of_length_le (by omega)]; rfl
theorem isEntry_ok (n : Int) (x : List Int) : FC Try.prog 46 [.int .i64 n, .rc 3 x] (.bool (entB n x)) [] := by
  refine fc_eval sp A1 A1_ok hT hm Try.func46 rfl (by kernel_rfl) rfl rfl ?_
  intro A S r0 fr0 hA hS hr hfr
  cbv
  (try simp only [nc] at *); subst hA hS hr hfr; simp (disch := (refine KR.mk ?_; kernel_rfl)) only [alg, obP_iff, condP_iff, retP_iff, retM_iff, ofNat_cast, nc, Int.toNat_natCast, decide_eq_true_eq, decide_eq_false_iff_not, wrap_w64, Bool.not_eq_true', Bool.not_eq_false', beq_iff_eq, beq_eq_false_iff_ne, AV.bool.injEq, AV.int.injEq, AV.t2.injEq, AV.t3.injEq, AV.own.injEq, List.cons.injEq, Prod.mk.injEq, Row.ints.injEq, RW, Row.nlen, scalar, imp_self, and_true, true_and, lexT, heldT, tailT, planT, nb, Int.toNat_zero, List.getD_cons_zero, List.getD_cons_succ, List.set_cons_zero, List.set_cons_succ, sp, sb, entB]
  try simp
theorem tbEntry_ok (n : Int) (x : List Int) : FC Try.prog 49 [.int .i64 n, .rc 3 x] (.bool (entB n x)) [] := by
  refine fc_eval sp A1 A1_ok hT hm Try.func49 rfl (by kernel_rfl) rfl rfl ?_
  intro A S r0 fr0 hA hS hr hfr
  cbv
  (try simp only [nc] at *); subst hA hS hr hfr; simp (disch := (refine KR.mk ?_; kernel_rfl)) only [alg, obP_iff, condP_iff, retP_iff, retM_iff, ofNat_cast, nc, Int.toNat_natCast, decide_eq_true_eq, decide_eq_false_iff_not, wrap_w64, Bool.not_eq_true', Bool.not_eq_false', beq_iff_eq, beq_eq_false_iff_ne, AV.bool.injEq, AV.int.injEq, AV.t2.injEq, AV.t3.injEq, AV.own.injEq, List.cons.injEq, Prod.mk.injEq, Row.ints.injEq, RW, Row.nlen, scalar, imp_self, and_true, true_and, lexT, heldT, tailT, planT, nb, Int.toNat_zero, List.getD_cons_zero, List.getD_cons_succ, List.set_cons_zero, List.set_cons_succ, sp, sb, entB]
  try simp
def A2 (S : St0) : List (Nat × (List AV → CR)) :=
  (46, fun args => match args with | [.int .i64 n, .rc 3 x] => .pure (True) (.bool (S.entB n x)) [] | _ => .no) ::
  (49, fun args => match args with | [.int .i64 n, .rc 3 x] => .pure (True) (.bool (S.entB n x)) [] | _ => .no) ::
  A1 S
set_option maxRecDepth 100000 in
theorem A2_ok : TabOK Try.prog (tfind (A2 sp)) := by
  refine tab_cons (fun args => ?_) (tab_cons (fun args => ?_) (A1_ok))
  · split
    · exact ent_pure fun _ => isEntry_ok _ _
    · exact ent_no
  · split
    · exact ent_pure fun _ => tbEntry_ok _ _
    · exact ent_no
end Go.Proofs.Ytlfioonmofkpiaa
