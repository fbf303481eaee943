/-
  Hyphens: what is a pattern.
-/
import Derived.Test.YtcbfpkdcgbkfaaaDoorB0
import Derived.Test.YtcbfpkdcgbkfaaaDoorH0
set_option linter.unusedSimpArgs false
set_option linter.unusedVariables false
namespace Go.Proofs.YtcbfpkdcgbkfaaaDoor
open Go.Ab

def digB (b : Int) : Bool := decide (49 ≤ b) && decide (b ≤ 57)
structure Sh extends Sb where
  digB : Int → Bool
  ss : List UInt8 → Prop
  patL : List UInt8 → List UInt8
  patV : List UInt8 → List Int
  patB : List UInt8 → Bool
def sh : Sh := { sb with digB := digB, ss := fun p => p.length ≤ 1048576, patL := patL, patV := patV, patB := patB }
theorem dig_ok (b : Int) : FC Tryd.prog 60 [.int .u8 b] (.bool (digB b)) [] := by
  refine fc_eval sb B2 B2_ok hT hm Tryd.func60 rfl (by kernel_rfl) rfl rfl ?_
  intro A S r0 fr0 hA hS hr hfr
  cbv
  (try simp only [nc] at *); subst hA hS hr hfr; simp (disch := (refine KR.mk ?_; kernel_rfl)) only [alg, obP_iff, condP_iff, retP_iff, retM_iff, ofNat_cast, nc, Int.toNat_natCast, decide_eq_true_eq, decide_eq_false_iff_not, wrap_w64, retS_iff, Bool.not_eq_true', Bool.not_eq_false', beq_iff_eq, beq_eq_false_iff_ne, AV.bool.injEq, AV.int.injEq, AV.t2.injEq, AV.t3.injEq, AV.own.injEq, List.cons.injEq, Prod.mk.injEq, Row.ints.injEq, RW, Row.nlen, scalar, imp_self, and_true, true_and, lexT, heldT, tailT, planT, nb, Int.toNat_zero, List.getD_cons_zero, List.getD_cons_succ, List.set_cons_zero, List.set_cons_succ, sb, digB]
def H1 (S : Sh) : List (Nat × (List AV → CR)) :=
  (60, fun args => match args with | [.int .u8 b] => .pure (True) (.bool (S.digB b)) [] | _ => .no) ::
  B2 S.toSb
set_option maxRecDepth 100000 in
theorem H1_ok : TabOK Tryd.prog (tfind (H1 sh)) := by
  refine tab_cons (fun args => ?_) (B2_ok)
  · split
    · exact ent_pure fun _ => dig_ok _
    · exact ent_no
set_option maxRecDepth 100000 in
set_option maxHeartbeats 1000000 in
theorem read_ok (p : List UInt8) (hp : p.length ≤ 1048576) : FC Tryd.prog 52 [.str p] (.t3 (.str (patL p)) (.own 0 true) (.bool (patB p))) [(3, .ints .i64 (patV p))] := by
  refine fc_eval sh H1 H1_ok hT hm Tryd.func52 rfl (by kernel_rfl) rfl rfl ?_
  intro A S r0 fr0 hA hS hr hfr
  cbv
  refine loop3 (fun (i : Nat) (L : List UInt8) (V : List Int) => ⟨fr 70 [(0, .str p), (5, .str L), (6, .own 1 false), (7, .int .i64 i)], [.dead, .row 3 (.ints .i64 V)]⟩)
    (fun i L V => i ≤ p.length ∧ patF p = (p.drop i).foldl pStep (some (L, V)) ∧ V.length = L.length + 1 ∧ L.length ≤ i ∧ smV V) (fun i _ _ => p.length - i) 0 [] [0] ?_ ?_ ?_
  · subst hA hS; simp [Wk_iff, fr, undefs, wkT, wkV, wkH, okid, Row.nlen, Row.rk, RK.rowk, getO, alg]
  · exact ⟨by omega, rfl, rfl, by simp, fun v hv => by simp at hv; omega⟩
  · intro i L V hR
    have i1 := hR.1
    have hfo := hR.2.1
    have hVL := hR.2.2.1
    have hLi := hR.2.2.2.1
    have hsm := hR.2.2.2.2
    clear hR
    cbv
    (try simp only [nc] at *); subst hA hS hr hfr; simp (disch := (refine KR.mk ?_; kernel_rfl)) only [alg, obP_iff, condP_iff, retP_iff, retM_iff, ofNat_cast, nc, Int.toNat_natCast, decide_eq_true_eq, decide_eq_false_iff_not, wrap_w64, retS_iff, Bool.not_eq_true', Bool.not_eq_false', beq_iff_eq, beq_eq_false_iff_ne, AV.bool.injEq, AV.int.injEq, AV.t2.injEq, AV.t3.injEq, AV.own.injEq, List.cons.injEq, Prod.mk.injEq, Row.ints.injEq, RW, Row.nlen, scalar, imp_self, and_true, true_and, lexT, heldT, tailT, planT, nb, Int.toNat_zero, List.getD_cons_zero, List.getD_cons_succ, List.set_cons_zero, List.set_cons_succ, sh, sb, digB]
    have w1 : w64 ((i : Int) + 1) = ((i + 1 : Nat) : Int) := by rw [w64_id (by omega)]; omega
    have w2 : w64 ((V.length : Int) - 1) = (L.length : Int) := by rw [w64_id (by omega)]; omega
    have hvl : V.length - 1 = L.length := by omega
    simp only [w1, w2, Int.toNat_natCast]
    refine ⟨fun hi => ?_, fun hi => ?_⟩
    · have hil : i < p.length := by omega
      have hto := take_one p hil
      have hcb := byte_lt (p.getD i 0)
      obtain ⟨b, hb⟩ : ∃ b, b = ((p.getD i 0).toNat : Int) := ⟨_, rfl⟩
      simp only [hto, ← hb] at hcb ⊢
      have w3 : w64 ((L.length : Int) + ([p.getD i 0].length : Nat)) = (L.length : Int) + 1 := by rw [w64_id (by simp; omega)]; simp
      simp only [w3]
      have hb0 : 0 ≤ b := by rw [hb]; omega
      refine ⟨by omega, fun _ => by omega, fun hd => ⟨by omega, by omega, i + 1, L, V.set L.length (b - 48), ?_, ⟨by omega, ?_, by simp; omega, by omega, ?_⟩, by omega⟩, fun hd => ⟨by omega, fun _ => by omega, fun hl => ⟨by omega, by omega, by omega, by omega, by simp, by omega, by simp, i + 1, L ++ [p.getD i 0], V ++ [0], ?_, ⟨by omega, ?_, by simp; omega, by simp; omega, smV_app hsm⟩, by omega⟩, fun hl => ?_⟩⟩
      · have w4 : w64 (IntKind.wrap .u8 (b - 48)) = b - 48 := by
          simp only [Bool.and_eq_true, decide_eq_true_eq] at hd
          have : IntKind.wrap .u8 (b - 48) = b - 48 := by rw [wu8]; omega
          rw [this, w64_id (by omega)]
        simp only [w1, w4]
        simp [Wk_iff, fr, undefs, wkT, wkV, wkH, okid, Row.nlen, Row.rk, RK.rowk, getO]
      · simp only [Bool.and_eq_true, decide_eq_true_eq, beq_iff_eq] at hd
        refine pat_step hfo hil ?_
        rw [pS_dig (by rw [← hb]; exact hd.1) (by rw [hvl]; exact hd.2), hvl, ← hb]
      · simp only [Bool.and_eq_true, decide_eq_true_eq, beq_iff_eq] at hd
        exact smV_set hsm _ (by omega)
      · try simp only [w1]
        simp [Wk_iff, fr, undefs, wkT, wkV, wkH, okid, Row.nlen, Row.rk, RK.rowk, getO]
      · simp only [Bool.and_eq_true, decide_eq_true_eq] at hl
        exact pat_step hfo hil (pS_let (by rw [← hb]; exact hl))
      · have hno : patF p = none := by
          refine pat_none hfo hil (pS_no ?_ ?_)
          · rw [← hb]
            intro h
            have : (decide (97 ≤ b) && decide (b ≤ 122)) = true := by simp [h]
            rw [hl] at this; cases this
          · rw [← hb, hvl]
            intro h
            have : (decide (49 ≤ b) && decide (b ≤ 57) && V.getD L.length 0 == 0) = true := by
              simp only [h.1, h.2, decide_true, beq_self_eq_true, Bool.and_self]
            rw [hd] at this; cases this
        simp [patL, patV, patB, hno]
    · have hend := pat_end hfo (by omega)
      have hsp := sumF_pos V 0 hsm (by omega) (by omega)
      refine ⟨fun h => by have := inR_iff.1 h; omega, ?_⟩
      simp only [patL, patV, patB, hend, hsp]
      simp [Bool.and_comm]
set_option maxRecDepth 100000 in
set_option maxHeartbeats 1000000 in
theorem hyP_ok (p : List UInt8) (hp : p.length ≤ 1048576) : FC Tryd.prog 37 [.str p] (.t3 (.str (patL p)) (.own 0 true) (.bool (patB p))) [(3, .ints .i64 (patV p))] := by
  refine fc_eval sh H1 H1_ok hT hm Tryd.func37 rfl (by kernel_rfl) rfl rfl ?_
  intro A S r0 fr0 hA hS hr hfr
  cbv
  refine loop4 (fun (i : Nat) (L : List UInt8) (V : List Int) (sm : Bool) => ⟨fr 75 [(0, .str p), (5, .str L), (6, .bool sm), (7, .own 1 false), (8, .int .i64 i)], [.dead, .row 3 (.ints .i64 V)]⟩)
    (fun i L V sm => i ≤ p.length ∧ patF p = (p.drop i).foldl pStep (some (L, V)) ∧ V.length = L.length + 1 ∧ L.length ≤ i ∧ smV V ∧ sm = posB V) (fun i _ _ _ => p.length - i) 0 [] [0] false ?_ ?_ ?_
  · subst hA hS; simp [Wk_iff, fr, undefs, wkT, wkV, wkH, okid, Row.nlen, Row.rk, RK.rowk, getO, alg]
  · exact ⟨by omega, rfl, rfl, by simp, fun v hv => by simp at hv; omega, rfl⟩
  · intro i L V sm hR
    have i1 := hR.1
    have hfo := hR.2.1
    have hVL := hR.2.2.1
    have hLi := hR.2.2.2.1
    have hsm := hR.2.2.2.2.1
    have hsp := hR.2.2.2.2.2
    clear hR
    cbv
    (try simp only [nc] at *); subst hA hS hr hfr; simp (disch := (refine KR.mk ?_; kernel_rfl)) only [alg, obP_iff, condP_iff, retP_iff, retM_iff, ofNat_cast, nc, Int.toNat_natCast, decide_eq_true_eq, decide_eq_false_iff_not, wrap_w64, retS_iff, Bool.not_eq_true', Bool.not_eq_false', beq_iff_eq, beq_eq_false_iff_ne, AV.bool.injEq, AV.int.injEq, AV.t2.injEq, AV.t3.injEq, AV.own.injEq, List.cons.injEq, Prod.mk.injEq, Row.ints.injEq, RW, Row.nlen, scalar, imp_self, and_true, true_and, lexT, heldT, tailT, planT, nb, Int.toNat_zero, List.getD_cons_zero, List.getD_cons_succ, List.set_cons_zero, List.set_cons_succ, sh, sb, digB]
    have w1 : w64 ((i : Int) + 1) = ((i + 1 : Nat) : Int) := by rw [w64_id (by omega)]; omega
    have w2 : w64 ((V.length : Int) - 1) = (L.length : Int) := by rw [w64_id (by omega)]; omega
    have hvl : V.length - 1 = L.length := by omega
    simp only [w1, w2, Int.toNat_natCast]
    refine ⟨fun hi => ?_, fun hi => ?_⟩
    · have hil : i < p.length := by omega
      have hto := take_one p hil
      have hcb := byte_lt (p.getD i 0)
      obtain ⟨b, hb⟩ : ∃ b, b = ((p.getD i 0).toNat : Int) := ⟨_, rfl⟩
      simp only [hto, ← hb] at hcb ⊢
      have w3 : w64 ((L.length : Int) + ([p.getD i 0].length : Nat)) = (L.length : Int) + 1 := by rw [w64_id (by simp; omega)]; simp
      simp only [w3]
      have hb0 : 0 ≤ b := by rw [hb]; omega
      refine ⟨by omega, fun _ => by omega, fun hl => ⟨by omega, by omega, by omega, by omega, by simp, by omega, by simp, i + 1, L ++ [p.getD i 0], V ++ [0], sm, ?_, ⟨by omega, ?_, by simp; omega, by simp; omega, smV_app hsm, by rw [hsp, posB_app]⟩, by omega⟩, fun hl => ⟨by omega, fun _ => by omega, fun _ => by omega, fun hd => ⟨by omega, by omega, i + 1, L, V.set L.length (b - 48), true, ?_, ⟨by omega, ?_, by simp; omega, by omega, ?_, ?_⟩, by omega⟩, fun hd => ?_⟩⟩
      · try simp only [w1]
        simp [Wk_iff, fr, undefs, wkT, wkV, wkH, okid, Row.nlen, Row.rk, RK.rowk, getO]
      · simp only [Bool.and_eq_true, decide_eq_true_eq] at hl
        exact pat_step hfo hil (pS_let (by rw [← hb]; exact hl))
      · have w4 : w64 (IntKind.wrap .u8 (b - 48)) = b - 48 := by
          simp only [Bool.and_eq_true, decide_eq_true_eq] at hd
          have : IntKind.wrap .u8 (b - 48) = b - 48 := by rw [wu8]; omega
          rw [this, w64_id (by omega)]
        simp only [w1, w4]
        simp [Wk_iff, fr, undefs, wkT, wkV, wkH, okid, Row.nlen, Row.rk, RK.rowk, getO]
      · simp only [Bool.and_eq_true, decide_eq_true_eq, beq_iff_eq] at hd
        refine pat_step hfo hil ?_
        rw [pS_dig (by rw [← hb]; exact hd.1) (by rw [hvl]; exact hd.2), hvl, ← hb]
      · simp only [Bool.and_eq_true, decide_eq_true_eq, beq_iff_eq] at hd
        exact smV_set hsm _ (by omega)
      · simp only [Bool.and_eq_true, decide_eq_true_eq, beq_iff_eq] at hd
        rw [posB_set _ _ _ (by omega) (by omega)]
      · have hno : patF p = none := by
          refine pat_none hfo hil (pS_no ?_ ?_)
          · rw [← hb]
            intro h
            have : (decide (97 ≤ b) && decide (b ≤ 122)) = true := by simp [h]
            rw [hl] at this; cases this
          · rw [← hb, hvl]
            intro h
            have : (decide (49 ≤ b) && decide (b ≤ 57) && V.getD L.length 0 == 0) = true := by
              simp only [h.1, h.2, decide_true, beq_self_eq_true, Bool.and_self]
            rw [hd] at this; cases this
        simp [patL, patV, patB, hno]
    · have hend := pat_end hfo (by omega)
      refine ⟨fun _ => trivial, ?_⟩
      simp only [patL, patV, patB, hend, hsp]
      simp
def H2 (S : Sh) : List (Nat × (List AV → CR)) :=
  (52, fun args => match args with | [.str p] => .pure (S.ss p) (.t3 (.str (S.patL p)) (.own 0 true) (.bool (S.patB p))) [(3, .ints .i64 (S.patV p))] | _ => .no) ::
  (37, fun args => match args with | [.str p] => .pure (S.ss p) (.t3 (.str (S.patL p)) (.own 0 true) (.bool (S.patB p))) [(3, .ints .i64 (S.patV p))] | _ => .no) ::
  H1 S
set_option maxRecDepth 100000 in
theorem H2_ok : TabOK Tryd.prog (tfind (H2 sh)) := by
  refine tab_cons (fun args => ?_) (tab_cons (fun args => ?_) (H1_ok))
  · split
    · exact ent_pure fun h => read_ok _ h
    · exact ent_no
  · split
    · exact ent_pure fun h => hyP_ok _ h
    · exact ent_no
theorem implPat_ok (p : List UInt8) (hp : p.length ≤ 1048576) : FC Tryd.prog 47 [.str p] (.bool (patB p)) [] := by
  refine fc_eval sh H2 H2_ok hT hm Tryd.func47 rfl (by kernel_rfl) rfl rfl ?_
  intro A S r0 fr0 hA hS hr hfr
  cbv
  (try simp only [nc] at *); subst hA hS hr hfr; simp (disch := (refine KR.mk ?_; kernel_rfl)) only [alg, obP_iff, condP_iff, retP_iff, retM_iff, ofNat_cast, nc, Int.toNat_natCast, decide_eq_true_eq, decide_eq_false_iff_not, wrap_w64, retS_iff, Bool.not_eq_true', Bool.not_eq_false', beq_iff_eq, beq_eq_false_iff_ne, AV.bool.injEq, AV.int.injEq, AV.t2.injEq, AV.t3.injEq, AV.own.injEq, List.cons.injEq, Prod.mk.injEq, Row.ints.injEq, RW, Row.nlen, scalar, imp_self, and_true, true_and, lexT, heldT, tailT, planT, nb, Int.toNat_zero, List.getD_cons_zero, List.getD_cons_succ, List.set_cons_zero, List.set_cons_succ, sh, sb]
  try exact hp
theorem specPat_ok (p : List UInt8) (hp : p.length ≤ 1048576) : FC Tryd.prog 34 [.str p] (.bool (patB p)) [] := by
  refine fc_eval sh H2 H2_ok hT hm Tryd.func34 rfl (by kernel_rfl) rfl rfl ?_
  intro A S r0 fr0 hA hS hr hfr
  cbv
  (try simp only [nc] at *); subst hA hS hr hfr; simp (disch := (refine KR.mk ?_; kernel_rfl)) only [alg, obP_iff, condP_iff, retP_iff, retM_iff, ofNat_cast, nc, Int.toNat_natCast, decide_eq_true_eq, decide_eq_false_iff_not, wrap_w64, retS_iff, Bool.not_eq_true', Bool.not_eq_false', beq_iff_eq, beq_eq_false_iff_ne, AV.bool.injEq, AV.int.injEq, AV.t2.injEq, AV.t3.injEq, AV.own.injEq, List.cons.injEq, Prod.mk.injEq, Row.ints.injEq, RW, Row.nlen, scalar, imp_self, and_true, true_and, lexT, heldT, tailT, planT, nb, Int.toNat_zero, List.getD_cons_zero, List.getD_cons_succ, List.set_cons_zero, List.set_cons_succ, sh, sb]
  try exact hp
def H3 (S : Sh) : List (Nat × (List AV → CR)) :=
  (47, fun args => match args with | [.str p] => .pure (S.ss p) (.bool (S.patB p)) [] | _ => .no) ::
  (34, fun args => match args with | [.str p] => .pure (S.ss p) (.bool (S.patB p)) [] | _ => .no) ::
  H2 S
set_option maxRecDepth 100000 in
theorem H3_ok : TabOK Tryd.prog (tfind (H3 sh)) := by
  refine tab_cons (fun args => ?_) (tab_cons (fun args => ?_) (H2_ok))
  · split
    · exact ent_pure fun h => implPat_ok _ h
    · exact ent_no
  · split
    · exact ent_pure fun h => specPat_ok _ h
    · exact ent_no
end Go.Proofs.YtcbfpkdcgbkfaaaDoor
