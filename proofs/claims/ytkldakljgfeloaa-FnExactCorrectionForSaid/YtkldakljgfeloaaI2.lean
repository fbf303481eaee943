/-
  Trials: the functions that sort, both sides.
-/
import Derived.Test.YtkldakljgfeloaaI1
set_option linter.unusedSimpArgs false
set_option linter.unusedVariables false
namespace Go.Proofs.Ytkldakljgfeloaa
open Go.Ab

structure Si extends Sb where
  sl : List Int → Prop
  good : List Int → Bool
  srt : List Int → List Int
  ps : List Int → Prop
  md : List Int → Int
  spr : List Int → Int
  cf : List Int → Int
def si : Si := { sb with sl := fun l => l.length ≤ 1000, good := good, srt := srt, ps := fun l => 0 < l.length ∧ l.length ≤ 1048576, md := mdV, spr := spV, cf := cfV }
theorem isOff_ok (n : Int) : FC Try.prog 21 [.int .i64 n] (.bool (inR n (-500) 500)) [] := by
  refine fc_eval sb B2 B2_ok hT hm Try.func21 rfl (by kernel_rfl) rfl rfl ?_
  intro A S r0 fr0 hA hS hr hfr
  cbv
  (try simp only [nc] at *); subst hA hS hr hfr; simp (disch := (refine KR.mk ?_; kernel_rfl)) only [alg, obP_iff, condP_iff, retP_iff, retM_iff, ofNat_cast, nc, Int.toNat_natCast, decide_eq_true_eq, decide_eq_false_iff_not, wrap_w64, retS_iff, Bool.not_eq_true', Bool.not_eq_false', beq_iff_eq, beq_eq_false_iff_ne, AV.bool.injEq, AV.int.injEq, AV.t2.injEq, AV.t3.injEq, AV.own.injEq, List.cons.injEq, Prod.mk.injEq, Row.ints.injEq, RW, Row.nlen, scalar, imp_self, and_true, true_and, lexT, heldT, tailT, planT, nb, Int.toNat_zero, List.getD_cons_zero, List.getD_cons_succ, List.set_cons_zero, List.set_cons_succ, sb]
def I1 (S : Si) : List (Nat × (List AV → CR)) :=
  (21, fun args => match args with | [.int .i64 n] => .pure (True) (.bool (S.inR n (-500) 500)) [] | _ => .no) ::
  (23, fun args => match args with | [.ro (.ints .i64 a)] => .mut 0 (S.ps a) .t0 (.ints .i64 (S.srt a)) | _ => .no) ::
  B2 S.toSb
set_option maxRecDepth 100000 in
theorem I1_ok : TabOK Try.prog (tfind (I1 si)) := by
  refine tab_cons (fun args => ?_) (tab_cons (fun args => ?_) (B2_ok))
  · split
    · exact ent_pure fun _ => isOff_ok _
    · exact ent_no
  · split
    · exact ent_mut fun h => sortI_ok _ h.1 h.2
    · exact ent_no
theorem gaGood_ok (l : List Int) (hl : l.length ≤ 1048576) : FC Try.prog 14 [.ro (.ints .i64 l)] (.bool (good l)) [] := by
  refine fc_eval si I1 I1_ok hT hm Try.func14 rfl (by kernel_rfl) rfl rfl ?_
  intro A S r0 fr0 hA hS hr hfr
  cbv
  (try simp only [nc] at *); subst hA hS hr hfr; simp (disch := (refine KR.mk ?_; kernel_rfl)) only [alg, obP_iff, condP_iff, retP_iff, retM_iff, ofNat_cast, nc, Int.toNat_natCast, decide_eq_true_eq, decide_eq_false_iff_not, wrap_w64, retS_iff, Bool.not_eq_true', Bool.not_eq_false', beq_iff_eq, beq_eq_false_iff_ne, AV.bool.injEq, AV.int.injEq, AV.t2.injEq, AV.t3.injEq, AV.own.injEq, List.cons.injEq, Prod.mk.injEq, Row.ints.injEq, RW, Row.nlen, scalar, imp_self, and_true, true_and, lexT, heldT, tailT, planT, nb, Int.toNat_zero, List.getD_cons_zero, List.getD_cons_succ, List.set_cons_zero, List.set_cons_succ, si, sb, good]
  exact fun _ => hl
theorem isTrial_ok (l : List Int) (hl : l.length ≤ 1048576) : FC Try.prog 16 [.ro (.ints .i64 l)] (.bool (good l)) [] := by
  refine fc_eval si I1 I1_ok hT hm Try.func16 rfl (by kernel_rfl) rfl rfl ?_
  intro A S r0 fr0 hA hS hr hfr
  cbv
  obtain ⟨L, hL⟩ : ∃ L : Int, L = l.length := ⟨_, rfl⟩
  refine loop1 (fun (i : Nat) => ⟨fr 18 [(0, .ro (.ints .i64 l)), (5, .ro (.ints .i64 l)), (6, .int .i64 L), (7, .int .i64 i)], [.dead]⟩)
    (fun i => i ≤ l.length ∧ allR l (-500) 500 = allR (l.drop i) (-500) 500) (fun i => l.length - i) 0 ?_ ?_ ?_
  · subst hA; simp [Wk_iff, fr, undefs, wkT, wkV, wkH, okid, Row.nlen, w64_eq, getO, alg, hL]
  · simp
  · rintro i ⟨h1, h2⟩
    cbv
    (try simp only [nc] at *); subst hA hS hr hfr; simp (disch := (refine KR.mk ?_; kernel_rfl)) only [alg, obP_iff, condP_iff, retP_iff, retM_iff, ofNat_cast, nc, Int.toNat_natCast, decide_eq_true_eq, decide_eq_false_iff_not, wrap_w64, retS_iff, Bool.not_eq_true', Bool.not_eq_false', beq_iff_eq, beq_eq_false_iff_ne, AV.bool.injEq, AV.int.injEq, AV.t2.injEq, AV.t3.injEq, AV.own.injEq, List.cons.injEq, Prod.mk.injEq, Row.ints.injEq, RW, Row.nlen, scalar, imp_self, and_true, true_and, lexT, heldT, tailT, planT, nb, Int.toNat_zero, List.getD_cons_zero, List.getD_cons_succ, List.set_cons_zero, List.set_cons_succ, si, sb]
    simp only [good]
    refine ⟨fun hc => ⟨by omega, fun hn => ?_, fun hn => ⟨i + 1, ?_, ⟨by omega, ?_⟩, by omega⟩⟩, fun hc => ?_⟩
    · rw [h2, allR_drop _ _ _ _ (by omega), hn]; simp
    · simp [Wk_iff, fr, undefs, wkT, wkV, wkH, okid, Row.nlen, w64_eq, getO]; try omega
    · rw [h2, allR_drop _ _ _ _ (by omega), hn]; rfl
    · rw [h2, allR_end _ _ _ _ (by omega)]; simp
theorem own_ok (l : List Int) (hl : l.length ≤ 1048576) : FC Try.prog 20 [.ro (.ints .i64 l)] (.own 0 true) [(3, .ints .i64 l)] := by
  refine fc_eval si I1 I1_ok hT hm Try.func20 rfl (by kernel_rfl) rfl rfl ?_
  intro A S r0 fr0 hA hS hr hfr
  cbv
  (try simp only [nc] at *); subst hA hS hr hfr; simp (disch := (refine KR.mk ?_; kernel_rfl)) only [alg, obP_iff, condP_iff, retP_iff, retM_iff, ofNat_cast, nc, Int.toNat_natCast, decide_eq_true_eq, decide_eq_false_iff_not, wrap_w64, retS_iff, Bool.not_eq_true', Bool.not_eq_false', beq_iff_eq, beq_eq_false_iff_ne, AV.bool.injEq, AV.int.injEq, AV.t2.injEq, AV.t3.injEq, AV.own.injEq, List.cons.injEq, Prod.mk.injEq, Row.ints.injEq, RW, Row.nlen, scalar, imp_self, and_true, true_and, lexT, heldT, tailT, planT, nb, Int.toNat_zero, List.getD_cons_zero, List.getD_cons_succ, List.set_cons_zero, List.set_cons_succ, si, sb]
  simp; omega
theorem sorted_ok (l : List Int) (h0 : 0 < l.length) (hl : l.length ≤ 1048576) : FC Try.prog 17 [.ro (.ints .i64 l)] (.own 0 true) [(3, .ints .i64 (srt l))] := by
  refine fc_eval si I1 I1_ok hT hm Try.func17 rfl (by kernel_rfl) rfl rfl ?_
  intro A S r0 fr0 hA hS hr hfr
  cbv
  (try simp only [nc] at *); subst hA hS hr hfr; simp (disch := (refine KR.mk ?_; kernel_rfl)) only [alg, obP_iff, condP_iff, retP_iff, retM_iff, ofNat_cast, nc, Int.toNat_natCast, decide_eq_true_eq, decide_eq_false_iff_not, wrap_w64, retS_iff, Bool.not_eq_true', Bool.not_eq_false', beq_iff_eq, beq_eq_false_iff_ne, AV.bool.injEq, AV.int.injEq, AV.t2.injEq, AV.t3.injEq, AV.own.injEq, List.cons.injEq, Prod.mk.injEq, Row.ints.injEq, RW, Row.nlen, scalar, imp_self, and_true, true_and, lexT, heldT, tailT, planT, nb, Int.toNat_zero, List.getD_cons_zero, List.getD_cons_succ, List.set_cons_zero, List.set_cons_succ, si, sb]
  simp; omega
def I2 (S : Si) : List (Nat × (List AV → CR)) :=
  (14, fun args => match args with | [.ro (.ints .i64 l)] => .pure (S.sm l) (.bool (S.good l)) [] | _ => .no) ::
  (16, fun args => match args with | [.ro (.ints .i64 l)] => .pure (S.sm l) (.bool (S.good l)) [] | _ => .no) ::
  (20, fun args => match args with | [.ro (.ints .i64 l)] => .pure (S.sm l) (.own 0 true) [(3, .ints .i64 l)] | _ => .no) ::
  (17, fun args => match args with | [.ro (.ints .i64 l)] => .pure (S.ps l) (.own 0 true) [(3, .ints .i64 (S.srt l))] | _ => .no) ::
  I1 S
set_option maxRecDepth 100000 in
theorem I2_ok : TabOK Try.prog (tfind (I2 si)) := by
  refine tab_cons (fun args => ?_) (tab_cons (fun args => ?_) (tab_cons (fun args => ?_) (tab_cons (fun args => ?_) (I1_ok))))
  · split
    · exact ent_pure fun h => gaGood_ok _ h
    · exact ent_no
  · split
    · exact ent_pure fun h => isTrial_ok _ h
    · exact ent_no
  · split
    · exact ent_pure fun h => own_ok _ h
    · exact ent_no
  · split
    · exact ent_pure fun h => sorted_ok _ h.1 h.2
    · exact ent_no
theorem in_step {out : List Int} {n : Int} {k : Nat} (h : inK out n = wh (ltK out n) (out.length + 1 - k) k) (hk : k ≤ out.length) (hm : ltK out n k = true) : inK out n = wh (ltK out n) (out.length + 1 - (k + 1)) (k + 1) := by
  rw [h, show out.length + 1 - k = (out.length - k) + 1 by omega, wh_t hm, show out.length - k = out.length + 1 - (k + 1) by omega]
set_option maxRecDepth 100000 in
set_option maxHeartbeats 1000000 in
theorem gaSorted_ok (l : List Int) (hl : l.length ≤ 1000) : FC Try.prog 15 [.ro (.ints .i64 l)] (.own 0 true) [(3, .ints .i64 (srt l))] := by
  refine fc_eval si I2 I2_ok hT hm Try.func15 rfl (by kernel_rfl) rfl rfl ?_
  intro A S r0 fr0 hA hS hr hfr
  cbv
  obtain ⟨L, hL⟩ : ∃ L : Int, L = l.length := ⟨_, rfl⟩
  refine loop2N [(1, 3)] (fun (i : Nat) (out : List Int) => ⟨fr 40 [(3, .own 1 true), (7, .ro (.ints .i64 l)), (8, .int .i64 L), (9, .int .i64 i)], [.dead, .row 3 (.ints .i64 out)]⟩)
    (fun i out => i ≤ l.length ∧ out.length = i ∧ gsL l = (l.drop i).foldl insL out) (fun i _ => l.length - i) 0 [] ?_ ?_ ?_
  · subst hA hS; simp [Wk_iff, fr, undefs, wkT, wkV, wkH, okid, Row.nlen, getO, alg, hL]
  · exact ⟨by omega, rfl, rfl⟩
  · intro i out hR
    have i1 := hR.1
    have i2 := hR.2.1
    have i3 := Hd.mk hR.2.2
    clear hR
    cbv
    refine condP.mk (fun hc => ?_) (fun hc => ?_)
    · have hi : i < l.length := by
        (try simp only [nc] at *); (try subst hA); (try subst hS); simp (disch := (refine KR.mk ?_; kernel_rfl)) only [alg, obP_iff, condP_iff, retP_iff, retM_iff, ofNat_cast, nc, Int.toNat_natCast, decide_eq_true_eq, decide_eq_false_iff_not, wrap_w64, retS_iff, Bool.not_eq_true', Bool.not_eq_false', beq_iff_eq, beq_eq_false_iff_ne, AV.bool.injEq, AV.int.injEq, AV.t2.injEq, AV.t3.injEq, AV.own.injEq, List.cons.injEq, Prod.mk.injEq, Row.ints.injEq, RW, Row.nlen, scalar, imp_self, and_true, true_and, lexT, heldT, tailT, planT, nb, Int.toNat_zero, List.getD_cons_zero, List.getD_cons_succ, List.set_cons_zero, List.set_cons_succ, si, sb] at hc
        omega
      obtain ⟨n, hn⟩ : ∃ n, n = l.getD i 0 := ⟨_, rfl⟩
      refine obP.mk (by (try simp only [nc] at *); subst hA hS; simp (disch := (refine KR.mk ?_; kernel_rfl)) only [alg, obP_iff, condP_iff, retP_iff, retM_iff, ofNat_cast, nc, Int.toNat_natCast, decide_eq_true_eq, decide_eq_false_iff_not, wrap_w64, retS_iff, Bool.not_eq_true', Bool.not_eq_false', beq_iff_eq, beq_eq_false_iff_ne, AV.bool.injEq, AV.int.injEq, AV.t2.injEq, AV.t3.injEq, AV.own.injEq, List.cons.injEq, Prod.mk.injEq, Row.ints.injEq, RW, Row.nlen, scalar, imp_self, and_true, true_and, lexT, heldT, tailT, planT, nb, Int.toNat_zero, List.getD_cons_zero, List.getD_cons_succ, List.set_cons_zero, List.set_cons_succ, si, sb]; omega) ?_
      refine loop1 (fun (k : Nat) => ⟨fr 40 [(3, .own 1 true), (5, .int .i64 n), (6, .int .i64 k), (7, .ro (.ints .i64 l)), (8, .int .i64 L), (9, .int .i64 i)], [.dead, .row 3 (.ints .i64 out)]⟩)
        (fun k => k ≤ out.length ∧ inK out n = wh (ltK out n) (out.length + 1 - k) k) (fun k => out.length - k) 0 ?_ ?_ ?_
      · (try simp only [nc] at *); subst hA hS; simp (disch := (refine KR.mk ?_; kernel_rfl)) only [alg, obP_iff, condP_iff, retP_iff, retM_iff, ofNat_cast, nc, Int.toNat_natCast, decide_eq_true_eq, decide_eq_false_iff_not, wrap_w64, retS_iff, Bool.not_eq_true', Bool.not_eq_false', beq_iff_eq, beq_eq_false_iff_ne, AV.bool.injEq, AV.int.injEq, AV.t2.injEq, AV.t3.injEq, AV.own.injEq, List.cons.injEq, Prod.mk.injEq, Row.ints.injEq, RW, Row.nlen, scalar, imp_self, and_true, true_and, lexT, heldT, tailT, planT, nb, Int.toNat_zero, List.getD_cons_zero, List.getD_cons_succ, List.set_cons_zero, List.set_cons_succ, si, sb]
        rw [hn]
        simp [Wk_iff, fr, undefs, wkT, wkV, wkH, okid, Row.nlen, getO]
      · exact ⟨by omega, rfl⟩
      · intro k hR
        have k1 := hR.1
        have k2 := Hd.mk hR.2
        clear hR
        cbv
        (try simp only [nc] at *); subst hA hS hr hfr; simp (disch := (refine KR.mk ?_; kernel_rfl)) only [alg, obP_iff, condP_iff, retP_iff, retM_iff, ofNat_cast, nc, Int.toNat_natCast, decide_eq_true_eq, decide_eq_false_iff_not, wrap_w64, retS_iff, Bool.not_eq_true', Bool.not_eq_false', beq_iff_eq, beq_eq_false_iff_ne, AV.bool.injEq, AV.int.injEq, AV.t2.injEq, AV.t3.injEq, AV.own.injEq, List.cons.injEq, Prod.mk.injEq, Row.ints.injEq, RW, Row.nlen, scalar, imp_self, and_true, true_and, lexT, heldT, tailT, planT, nb, Int.toNat_zero, List.getD_cons_zero, List.getD_cons_succ, List.set_cons_zero, List.set_cons_succ, si, sb]
        have w1 : w64 ((k : Int) + 1) = ((k + 1 : Nat) : Int) := by rw [w64_id (by omega)]; omega
        have w2 : w64 ((k : Int) - 0) = (k : Int) := by rw [w64_id (by omega)]; omega
        have w3 : w64 ((out.length : Int) - (k : Int)) = ((out.length - k : Nat) : Int) := by rw [w64_id (by omega)]; omega
        have w4 : w64 ((i : Int) + 1) = ((i + 1 : Nat) : Int) := by rw [w64_id (by omega)]; omega
        have e1 : List.drop 0 (List.take (0 + k) out) = out.take k := by simp
        have e2 : List.drop k (List.take (k + (out.length - k)) out) = out.drop k := by rw [show k + (out.length - k) = out.length by omega, List.take_length]
        have hlt : (decide ((k : Int) < (out.length : Int)) && decide (out.getD k 0 < n)) = ltK out n k := rfl
        have l1 : (out.take k).length = k := by simp; omega
        have l2 : (out.drop k).length = out.length - k := by simp
        simp only [w1, w2, w3, w4, Int.toNat_natCast, e1, e2, hlt, List.length_append, List.length_cons, List.length_nil, l1, l2]
        refine ⟨fun _ => by omega, fun ht => ⟨k + 1, ?_, ⟨?_, in_step k2.h k1 ht⟩, ?_⟩, fun hf => ?_⟩
        · simp [Wk_iff, fr, undefs, wkT, wkV, wkH, okid, Row.nlen, getO]
        · simp only [ltK, Bool.and_eq_true, decide_eq_true_eq] at ht; omega
        · simp only [ltK, Bool.and_eq_true, decide_eq_true_eq] at ht; omega
        · have hk : inK out n = k := by rw [k2.h, wh_f hf]
          have hins : insL out n = out.take k ++ n :: out.drop k := by rw [insL, hk]
          have hstep : gsL l = (l.drop (i + 1)).foldl insL (out.take k ++ n :: out.drop k) := by rw [i3.h, fold_drop 0 _ _ _ _ hi, ← hn, hins]
          have hlen : (out.take k ++ n :: out.drop k).length = i + 1 := by simp; omega
          refine ⟨by omega, by omega, by omega, by omega, by omega, by omega, ⟨by omega, by omega, by omega, by omega, by omega, i + 1, out.take k ++ n :: out.drop k, ?_, ⟨by omega, hlen, hstep⟩, by omega⟩, by omega, by omega, by omega, by omega, by omega, i + 1, out.take k ++ n :: out.drop k, ?_, ⟨by omega, hlen, hstep⟩, by omega⟩
          · simp [Wk_iff, fr, undefs, wkT, wkV, wkH, okid, Row.nlen, getO, mvs, mv, mvV, Nat.beq, Nat.blt, Nat.ble]
          · simp [Wk_iff, fr, undefs, wkT, wkV, wkH, okid, Row.nlen, getO, mvs, mv, mvV, Nat.beq, Nat.blt, Nat.ble]
    · have hi : i = l.length := by
        (try simp only [nc] at *); (try subst hA); (try subst hS); simp (disch := (refine KR.mk ?_; kernel_rfl)) only [alg, obP_iff, condP_iff, retP_iff, retM_iff, ofNat_cast, nc, Int.toNat_natCast, decide_eq_true_eq, decide_eq_false_iff_not, wrap_w64, retS_iff, Bool.not_eq_true', Bool.not_eq_false', beq_iff_eq, beq_eq_false_iff_ne, AV.bool.injEq, AV.int.injEq, AV.t2.injEq, AV.t3.injEq, AV.own.injEq, List.cons.injEq, Prod.mk.injEq, Row.ints.injEq, RW, Row.nlen, scalar, imp_self, and_true, true_and, lexT, heldT, tailT, planT, nb, Int.toNat_zero, List.getD_cons_zero, List.getD_cons_succ, List.set_cons_zero, List.set_cons_succ, si, sb] at hc
        omega
      (try simp only [nc] at *); subst hA hS hr hfr; simp (disch := (refine KR.mk ?_; kernel_rfl)) only [alg, obP_iff, condP_iff, retP_iff, retM_iff, ofNat_cast, nc, Int.toNat_natCast, decide_eq_true_eq, decide_eq_false_iff_not, wrap_w64, retS_iff, Bool.not_eq_true', Bool.not_eq_false', beq_iff_eq, beq_eq_false_iff_ne, AV.bool.injEq, AV.int.injEq, AV.t2.injEq, AV.t3.injEq, AV.own.injEq, List.cons.injEq, Prod.mk.injEq, Row.ints.injEq, RW, Row.nlen, scalar, imp_self, and_true, true_and, lexT, heldT, tailT, planT, nb, Int.toNat_zero, List.getD_cons_zero, List.getD_cons_succ, List.set_cons_zero, List.set_cons_succ, si, sb]
      have : out = srt l := by rw [← gs_srt, i3.h, hi, List.drop_length]; rfl
      rw [this]
def I3 (S : Si) : List (Nat × (List AV → CR)) :=
  (15, fun args => match args with | [.ro (.ints .i64 l)] => .pure (S.sl l) (.own 0 true) [(3, .ints .i64 (S.srt l))] | _ => .no) ::
  I2 S
set_option maxRecDepth 100000 in
theorem I3_ok : TabOK Try.prog (tfind (I3 si)) := by
  refine tab_cons (fun args => ?_) (I2_ok)
  · split
    · exact ent_pure fun h => gaSorted_ok _ h
    · exact ent_no
theorem mid1 {n : Nat} (h : 1 ≤ n ∧ n ≤ 40) : w64 ((w64 ((n : Int) - 1)).tdiv 2) = (((n - 1) / 2 : Nat) : Int) := by
  have e : w64 ((n : Int) - 1) = ((n - 1 : Nat) : Int) := by rw [w64_id (by omega)]; omega
  have e2 : (((n - 1 : Nat) : Int)).tdiv 2 = (((n - 1) / 2 : Nat) : Int) := (Int.ofNat_tdiv (n - 1) 2).symm
  rw [e, e2, w64_id (by omega)]
theorem mid2 {n : Nat} (h : 1 ≤ n ∧ n ≤ 40) : w64 ((n : Int).tdiv 2) = ((n / 2 : Nat) : Int) := by
  have e2 : ((n : Int)).tdiv 2 = ((n / 2 : Nat) : Int) := (Int.ofNat_tdiv n 2).symm
  rw [e2, w64_id (by omega)]
theorem mid3 {n : Nat} (h : 1 ≤ n ∧ n ≤ 40) : w64 ((n : Int) - 1) = ((n - 1 : Nat) : Int) := by rw [w64_id (by omega)]; omega
set_option maxRecDepth 100000 in
theorem implMd_ok (l : List Int) (hl : l.length ≤ 1048576) : FC Try.prog 8 [.ro (.ints .i64 l)] (.t2 (.int .i64 (mdV l)) (.bool (good l))) [] := by
  refine fc_eval si I3 I3_ok hT hm Try.func8 rfl (by kernel_rfl) rfl rfl ?_
  intro A S r0 fr0 hA hS hr hfr
  cbv
  (try simp only [nc] at *); subst hA hS hr hfr; simp (disch := (refine KR.mk ?_; kernel_rfl)) only [alg, obP_iff, condP_iff, retP_iff, retM_iff, ofNat_cast, nc, Int.toNat_natCast, decide_eq_true_eq, decide_eq_false_iff_not, wrap_w64, retS_iff, Bool.not_eq_true', Bool.not_eq_false', beq_iff_eq, beq_eq_false_iff_ne, AV.bool.injEq, AV.int.injEq, AV.t2.injEq, AV.t3.injEq, AV.own.injEq, List.cons.injEq, Prod.mk.injEq, Row.ints.injEq, RW, Row.nlen, scalar, imp_self, and_true, true_and, lexT, heldT, tailT, planT, nb, Int.toNat_zero, List.getD_cons_zero, List.getD_cons_succ, List.set_cons_zero, List.set_cons_succ, si, sb]
  rw [srt_len]
  refine ⟨hl, fun h => by simp [mdV, h], fun h => ?_⟩
  have hn := good_len h
  rw [h]
  rw [mid1 hn]
  refine ⟨⟨by omega, by omega⟩, by omega, by omega, ?_, rfl⟩
  rw [Int.toNat_natCast, mdV, if_pos h]
set_option maxRecDepth 100000 in
theorem specMd_ok (l : List Int) (hl : l.length ≤ 1048576) : FC Try.prog 6 [.ro (.ints .i64 l)] (.t2 (.int .i64 (mdV l)) (.bool (good l))) [] := by
  refine fc_eval si I3 I3_ok hT hm Try.func6 rfl (by kernel_rfl) rfl rfl ?_
  intro A S r0 fr0 hA hS hr hfr
  cbv
  (try simp only [nc] at *); subst hA hS hr hfr; simp (disch := (refine KR.mk ?_; kernel_rfl)) only [alg, obP_iff, condP_iff, retP_iff, retM_iff, ofNat_cast, nc, Int.toNat_natCast, decide_eq_true_eq, decide_eq_false_iff_not, wrap_w64, retS_iff, Bool.not_eq_true', Bool.not_eq_false', beq_iff_eq, beq_eq_false_iff_ne, AV.bool.injEq, AV.int.injEq, AV.t2.injEq, AV.t3.injEq, AV.own.injEq, List.cons.injEq, Prod.mk.injEq, Row.ints.injEq, RW, Row.nlen, scalar, imp_self, and_true, true_and, lexT, heldT, tailT, planT, nb, Int.toNat_zero, List.getD_cons_zero, List.getD_cons_succ, List.set_cons_zero, List.set_cons_succ, si, sb]
  rw [srt_len]
  refine ⟨hl, fun h => by simp [mdV, h], fun h => ?_⟩
  have hn := good_len h
  rw [h]
  rw [mid1 hn]
  refine ⟨by omega, by omega, by omega, ?_, rfl⟩
  rw [Int.toNat_natCast, mdV, if_pos h]
set_option maxRecDepth 100000 in
theorem implSp_ok (l : List Int) (hl : l.length ≤ 1048576) : FC Try.prog 11 [.ro (.ints .i64 l)] (.t2 (.int .i64 (spV l)) (.bool (good l))) [] := by
  refine fc_eval si I3 I3_ok hT hm Try.func11 rfl (by kernel_rfl) rfl rfl ?_
  intro A S r0 fr0 hA hS hr hfr
  cbv
  (try simp only [nc] at *); subst hA hS hr hfr; simp (disch := (refine KR.mk ?_; kernel_rfl)) only [alg, obP_iff, condP_iff, retP_iff, retM_iff, ofNat_cast, nc, Int.toNat_natCast, decide_eq_true_eq, decide_eq_false_iff_not, wrap_w64, retS_iff, Bool.not_eq_true', Bool.not_eq_false', beq_iff_eq, beq_eq_false_iff_ne, AV.bool.injEq, AV.int.injEq, AV.t2.injEq, AV.t3.injEq, AV.own.injEq, List.cons.injEq, Prod.mk.injEq, Row.ints.injEq, RW, Row.nlen, scalar, imp_self, and_true, true_and, lexT, heldT, tailT, planT, nb, Int.toNat_zero, List.getD_cons_zero, List.getD_cons_succ, List.set_cons_zero, List.set_cons_succ, si, sb]
  rw [srt_len]
  refine ⟨hl, fun h => by simp [spV, h], fun h => ?_⟩
  have hn := good_len h
  rw [h]
  rw [mid3 hn]
  have b1 := srt_bd h (i := l.length - 1) (by omega)
  have b2 := srt_bd h (i := 0) (by omega)
  refine ⟨⟨by omega, by omega⟩, by omega, by omega, ?_, rfl⟩
  rw [Int.toNat_natCast, w64_id (by omega), spV, if_pos h]
set_option maxRecDepth 100000 in
theorem specSp_ok (l : List Int) (hl : l.length ≤ 1048576) : FC Try.prog 10 [.ro (.ints .i64 l)] (.t2 (.int .i64 (spV l)) (.bool (good l))) [] := by
  refine fc_eval si I3 I3_ok hT hm Try.func10 rfl (by kernel_rfl) rfl rfl ?_
  intro A S r0 fr0 hA hS hr hfr
  cbv
  (try simp only [nc] at *); subst hA hS hr hfr; simp (disch := (refine KR.mk ?_; kernel_rfl)) only [alg, obP_iff, condP_iff, retP_iff, retM_iff, ofNat_cast, nc, Int.toNat_natCast, decide_eq_true_eq, decide_eq_false_iff_not, wrap_w64, retS_iff, Bool.not_eq_true', Bool.not_eq_false', beq_iff_eq, beq_eq_false_iff_ne, AV.bool.injEq, AV.int.injEq, AV.t2.injEq, AV.t3.injEq, AV.own.injEq, List.cons.injEq, Prod.mk.injEq, Row.ints.injEq, RW, Row.nlen, scalar, imp_self, and_true, true_and, lexT, heldT, tailT, planT, nb, Int.toNat_zero, List.getD_cons_zero, List.getD_cons_succ, List.set_cons_zero, List.set_cons_succ, si, sb]
  rw [srt_len]
  refine ⟨hl, fun h => by simp [spV, h], fun h => ?_⟩
  have hn := good_len h
  rw [h]
  rw [mid3 hn]
  have b1 := srt_bd h (i := l.length - 1) (by omega)
  have b2 := srt_bd h (i := 0) (by omega)
  refine ⟨by omega, by omega, by omega, ?_, rfl⟩
  rw [Int.toNat_natCast, w64_id (by omega), spV, if_pos h]
set_option maxRecDepth 100000 in
theorem implCf_ok (l : List Int) (hl : l.length ≤ 1048576) : FC Try.prog 13 [.ro (.ints .i64 l)] (.t2 (.int .i64 (cfV l)) (.bool (good l))) [] := by
  refine fc_eval si I3 I3_ok hT hm Try.func13 rfl (by kernel_rfl) rfl rfl ?_
  intro A S r0 fr0 hA hS hr hfr
  cbv
  (try simp only [nc] at *); subst hA hS hr hfr; simp (disch := (refine KR.mk ?_; kernel_rfl)) only [alg, obP_iff, condP_iff, retP_iff, retM_iff, ofNat_cast, nc, Int.toNat_natCast, decide_eq_true_eq, decide_eq_false_iff_not, wrap_w64, retS_iff, Bool.not_eq_true', Bool.not_eq_false', beq_iff_eq, beq_eq_false_iff_ne, AV.bool.injEq, AV.int.injEq, AV.t2.injEq, AV.t3.injEq, AV.own.injEq, List.cons.injEq, Prod.mk.injEq, Row.ints.injEq, RW, Row.nlen, scalar, imp_self, and_true, true_and, lexT, heldT, tailT, planT, nb, Int.toNat_zero, List.getD_cons_zero, List.getD_cons_succ, List.set_cons_zero, List.set_cons_succ, si, sb]
  rw [srt_len]
  refine ⟨hl, fun h => by simp [cfV, h], fun h => ?_⟩
  have hn := good_len h
  rw [h]
  rw [mid1 hn, mid2 hn, Int.toNat_natCast, Int.toNat_natCast]
  have b1 := srt_bd h (i := (l.length - 1) / 2) (by omega)
  have b2 := srt_bd h (i := l.length / 2) (by omega)
  have b3 := srt_le l (i := (l.length - 1) / 2) (j := l.length / 2) (by omega) (by omega)
  refine ⟨⟨by omega, by omega⟩, by omega, by omega, by omega, by omega, ?_, rfl⟩
  simp only [cfV, if_pos h]
  generalize (srt l).getD ((l.length - 1) / 2) 0 = a at *
  generalize (srt l).getD (l.length / 2) 0 = b at *
  rw [w64_id (by omega), w64_id (by omega)]
  repeat' split
  all_goals omega
set_option maxRecDepth 100000 in
theorem specCf_ok (l : List Int) (hl : l.length ≤ 1048576) : FC Try.prog 12 [.ro (.ints .i64 l)] (.t2 (.int .i64 (cfV l)) (.bool (good l))) [] := by
  refine fc_eval si I3 I3_ok hT hm Try.func12 rfl (by kernel_rfl) rfl rfl ?_
  intro A S r0 fr0 hA hS hr hfr
  cbv
  (try simp only [nc] at *); subst hA hS hr hfr; simp (disch := (refine KR.mk ?_; kernel_rfl)) only [alg, obP_iff, condP_iff, retP_iff, retM_iff, ofNat_cast, nc, Int.toNat_natCast, decide_eq_true_eq, decide_eq_false_iff_not, wrap_w64, retS_iff, Bool.not_eq_true', Bool.not_eq_false', beq_iff_eq, beq_eq_false_iff_ne, AV.bool.injEq, AV.int.injEq, AV.t2.injEq, AV.t3.injEq, AV.own.injEq, List.cons.injEq, Prod.mk.injEq, Row.ints.injEq, RW, Row.nlen, scalar, imp_self, and_true, true_and, lexT, heldT, tailT, planT, nb, Int.toNat_zero, List.getD_cons_zero, List.getD_cons_succ, List.set_cons_zero, List.set_cons_succ, si, sb]
  rw [srt_len]
  refine ⟨hl, fun h => by simp [cfV, h], fun h => ?_⟩
  have hn := good_len h
  rw [h]
  rw [mid1 hn, mid2 hn, Int.toNat_natCast, Int.toNat_natCast]
  have b1 := srt_bd h (i := (l.length - 1) / 2) (by omega)
  have b2 := srt_bd h (i := l.length / 2) (by omega)
  refine ⟨by omega, by omega, by omega, by omega, by omega, ?_⟩
  simp only [cfV, if_pos h]
  generalize (srt l).getD ((l.length - 1) / 2) 0 = a at *
  generalize (srt l).getD (l.length / 2) 0 = b at *
  rw [w64_id (by omega), w64_id (by omega)]
  refine ⟨fun h1 => ⟨by rw [if_pos h1]; omega, trivial⟩, fun h1 => ⟨fun h2 => ⟨by rw [if_neg h1, if_pos h2]; omega, trivial⟩, fun h2 => ⟨by rw [if_neg h1, if_neg h2], trivial⟩⟩⟩
def I4 (S : Si) : List (Nat × (List AV → CR)) :=
  (8, fun args => match args with | [.ro (.ints .i64 l)] => .pure (S.sm l) (.t2 (.int .i64 (S.md l)) (.bool (S.good l))) [] | _ => .no) ::
  (6, fun args => match args with | [.ro (.ints .i64 l)] => .pure (S.sm l) (.t2 (.int .i64 (S.md l)) (.bool (S.good l))) [] | _ => .no) ::
  (11, fun args => match args with | [.ro (.ints .i64 l)] => .pure (S.sm l) (.t2 (.int .i64 (S.spr l)) (.bool (S.good l))) [] | _ => .no) ::
  (10, fun args => match args with | [.ro (.ints .i64 l)] => .pure (S.sm l) (.t2 (.int .i64 (S.spr l)) (.bool (S.good l))) [] | _ => .no) ::
  (13, fun args => match args with | [.ro (.ints .i64 l)] => .pure (S.sm l) (.t2 (.int .i64 (S.cf l)) (.bool (S.good l))) [] | _ => .no) ::
  (12, fun args => match args with | [.ro (.ints .i64 l)] => .pure (S.sm l) (.t2 (.int .i64 (S.cf l)) (.bool (S.good l))) [] | _ => .no) ::
  I3 S
set_option maxRecDepth 100000 in
theorem I4_ok : TabOK Try.prog (tfind (I4 si)) := by
  refine tab_cons (fun args => ?_) (tab_cons (fun args => ?_) (tab_cons (fun args => ?_) (tab_cons (fun args => ?_) (tab_cons (fun args => ?_) (tab_cons (fun args => ?_) (I3_ok))))))
  · split
    · exact ent_pure fun h => implMd_ok _ h
    · exact ent_no
  · split
    · exact ent_pure fun h => specMd_ok _ h
    · exact ent_no
  · split
    · exact ent_pure fun h => implSp_ok _ h
    · exact ent_no
  · split
    · exact ent_pure fun h => specSp_ok _ h
    · exact ent_no
  · split
    · exact ent_pure fun h => implCf_ok _ h
    · exact ent_no
  · split
    · exact ent_pure fun h => specCf_ok _ h
    · exact ent_no
set_option maxRecDepth 100000 in
theorem lawMedianOff (l : List Int) : FC Try.prog 3 [.ro (.ints .i64 l)] (.bool true) [] := by
  refine fc_eval si I4 I4_ok hT hm Try.func3 rfl (by kernel_rfl) rfl rfl ?_
  intro A S r0 fr0 hA hS hr hfr
  cbv
  (try simp only [nc] at *); subst hA hS hr hfr; simp (disch := (refine KR.mk ?_; kernel_rfl)) only [alg, obP_iff, condP_iff, retP_iff, retM_iff, ofNat_cast, nc, Int.toNat_natCast, decide_eq_true_eq, decide_eq_false_iff_not, wrap_w64, retS_iff, Bool.not_eq_true', Bool.not_eq_false', beq_iff_eq, beq_eq_false_iff_ne, AV.bool.injEq, AV.int.injEq, AV.t2.injEq, AV.t3.injEq, AV.own.injEq, List.cons.injEq, Prod.mk.injEq, Row.ints.injEq, RW, Row.nlen, scalar, imp_self, and_true, true_and, lexT, heldT, tailT, planT, nb, Int.toNat_zero, List.getD_cons_zero, List.getD_cons_succ, List.set_cons_zero, List.set_cons_succ, si, sb, eqL]
  simp
  try omega
set_option maxRecDepth 100000 in
theorem lawSpreadOff (l : List Int) : FC Try.prog 4 [.ro (.ints .i64 l)] (.bool true) [] := by
  refine fc_eval si I4 I4_ok hT hm Try.func4 rfl (by kernel_rfl) rfl rfl ?_
  intro A S r0 fr0 hA hS hr hfr
  cbv
  (try simp only [nc] at *); subst hA hS hr hfr; simp (disch := (refine KR.mk ?_; kernel_rfl)) only [alg, obP_iff, condP_iff, retP_iff, retM_iff, ofNat_cast, nc, Int.toNat_natCast, decide_eq_true_eq, decide_eq_false_iff_not, wrap_w64, retS_iff, Bool.not_eq_true', Bool.not_eq_false', beq_iff_eq, beq_eq_false_iff_ne, AV.bool.injEq, AV.int.injEq, AV.t2.injEq, AV.t3.injEq, AV.own.injEq, List.cons.injEq, Prod.mk.injEq, Row.ints.injEq, RW, Row.nlen, scalar, imp_self, and_true, true_and, lexT, heldT, tailT, planT, nb, Int.toNat_zero, List.getD_cons_zero, List.getD_cons_succ, List.set_cons_zero, List.set_cons_succ, si, sb, eqL]
  simp
  try omega
set_option maxRecDepth 100000 in
theorem lawCorrectionFor (l : List Int) : FC Try.prog 5 [.ro (.ints .i64 l)] (.bool true) [] := by
  refine fc_eval si I4 I4_ok hT hm Try.func5 rfl (by kernel_rfl) rfl rfl ?_
  intro A S r0 fr0 hA hS hr hfr
  cbv
  (try simp only [nc] at *); subst hA hS hr hfr; simp (disch := (refine KR.mk ?_; kernel_rfl)) only [alg, obP_iff, condP_iff, retP_iff, retM_iff, ofNat_cast, nc, Int.toNat_natCast, decide_eq_true_eq, decide_eq_false_iff_not, wrap_w64, retS_iff, Bool.not_eq_true', Bool.not_eq_false', beq_iff_eq, beq_eq_false_iff_ne, AV.bool.injEq, AV.int.injEq, AV.t2.injEq, AV.t3.injEq, AV.own.injEq, List.cons.injEq, Prod.mk.injEq, Row.ints.injEq, RW, Row.nlen, scalar, imp_self, and_true, true_and, lexT, heldT, tailT, planT, nb, Int.toNat_zero, List.getD_cons_zero, List.getD_cons_succ, List.set_cons_zero, List.set_cons_succ, si, sb, eqL]
  simp
  try omega
end Go.Proofs.Ytkldakljgfeloaa
