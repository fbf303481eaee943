/-
  Hyphens in words: what may be asked.
-/
import Derived.Test.YtcbfpkdcgbkfaaaDoorV3
set_option linter.unusedSimpArgs false
set_option linter.unusedVariables false
namespace Go.Proofs.YtcbfpkdcgbkfaaaDoor
open Go.Ab Go.RowKit

def goodB (p e : List (List UInt8)) : Bool := patsB p && excsB e
def askB (p e : List (List UInt8)) (w : List UInt8) : Bool := goodB p e && letB w 1 16
def V7 (S : Sw) : List (Nat × (List AV → CR)) :=
  (40, fun args => match args with | [.ro (.strs l)] => .pure (S.allS l) (.bool (S.excsB l)) [] | _ => .no) ::
  V6 S
set_option maxRecDepth 100000 in
theorem V7_ok : TabG gW Tryd.prog (tfind (V7 sw)) := by
  refine tab_cons (fun args => ?_) (V6_ok)
  · split
    · exact ent_pure fun h => areE_ok _ h
    · exact ent_no
theorem isH_ok (p e : List (List UInt8)) (w : List UInt8) (hp : allS p) (he : allS e) (hw : w.length ≤ 1048576) : FCG gW Tryd.prog 29 [.ro (.strs p), .ro (.strs e), .str w] (.bool (askB p e w)) [] := by
  refine fcg_eval gW_st sw V7 V7_ok hT hm Tryd.func29 rfl (by kernel_rfl) rfl rfl ?_
  intro A S r0 fr0 hA hS hr hfr
  cbv
  (try simp only [nc] at *); subst hA hS hr hfr; simp (disch := (refine KR.mk ?_; kernel_rfl)) only [alg, obP_iff, condP_iff, retP_iff, retM_iff, ofNat_cast, nc, Int.toNat_natCast, decide_eq_true_eq, decide_eq_false_iff_not, wrap_w64, retS_iff, Bool.not_eq_true', Bool.not_eq_false', beq_iff_eq, beq_eq_false_iff_ne, AV.bool.injEq, AV.int.injEq, AV.t2.injEq, AV.t3.injEq, AV.own.injEq, List.cons.injEq, Prod.mk.injEq, Row.ints.injEq, RW, Row.nlen, scalar, imp_self, and_true, true_and, lexT, heldT, tailT, planT, nb, Int.toNat_zero, List.getD_cons_zero, List.getD_cons_succ, List.set_cons_zero, List.set_cons_succ, sw, sv, sh, sb, askB, goodB]
  simp [hp, he, hw]
def W1 (S : Sv) : List (Nat × (List AV → CR)) :=
  (27, fun args => match args with | [.str s] => .pure (S.ss s) (.t3 (.str (S.bL s)) (.own 0 true) (.bool (S.bB s))) [(3, .ints .i64 (S.bP s))] | _ => .no) ::
  V2 S
set_option maxRecDepth 100000 in
theorem W1_ok : TabOK Tryd.prog (tfind (W1 sv)) := by
  refine tab_cons (fun args => ?_) (V2_ok)
  · split
    · exact ent_pure fun h => bare_ok _ h
    · exact ent_no
set_option maxRecDepth 100000 in
set_option maxHeartbeats 1000000 in
theorem good_ok (p e : List (List UInt8)) (hp : allS p) (he : allS e) : FC Tryd.prog 25 [.ro (.strs p), .ro (.strs e)] (.bool (goodB p e)) [] := by
  refine fc_eval sv W1 W1_ok hT hm Tryd.func25 rfl (by kernel_rfl) rfl rfl ?_
  intro A S r0 fr0 hA hS hr hfr
  cbv
  obtain ⟨L, hL⟩ : ∃ L : Int, L = p.length := ⟨_, rfl⟩
  obtain ⟨M, hM⟩ : ∃ L : Int, L = e.length := ⟨_, rfl⟩
  refine loop1 (fun (i : Nat) => ⟨fr 55 [(0, .ro (.strs p)), (1, .ro (.strs e)), (13, .ro (.strs p)), (14, .int .i64 L), (15, .int .i64 i)], [.dead]⟩)
    (fun i => i ≤ p.length ∧ p.all patB = (p.drop i).all patB) (fun i => p.length - i) 0 ?_ ?_ ?_
  · subst hA hS; simp [Wk_iff, fr, undefs, wkT, wkV, wkH, okid, Row.nlen, Row.rk, RK.rowk, w64_eq, getO, alg, hL]
  · simp
  · intro i hR
    have i1 := hR.1
    have i2 := hR.2
    clear hR
    cbv
    refine condP.mk (fun hc => ?_) (fun hc => ?_)
    · have hi : (i : Int) < L := by (try simp only [nc] at *); (try subst hA); (try subst hS); simp (disch := (refine KR.mk ?_; kernel_rfl)) only [alg, obP_iff, condP_iff, retP_iff, retM_iff, ofNat_cast, nc, Int.toNat_natCast, decide_eq_true_eq, decide_eq_false_iff_not, wrap_w64, retS_iff, Bool.not_eq_true', Bool.not_eq_false', beq_iff_eq, beq_eq_false_iff_ne, AV.bool.injEq, AV.int.injEq, AV.t2.injEq, AV.t3.injEq, AV.own.injEq, List.cons.injEq, Prod.mk.injEq, Row.ints.injEq, RW, Row.nlen, scalar, imp_self, and_true, true_and, lexT, heldT, tailT, planT, nb, Int.toNat_zero, List.getD_cons_zero, List.getD_cons_succ, List.set_cons_zero, List.set_cons_succ, sv, sh, sb] at hc; exact hc
      have hpn := hp.1
      (try simp only [nc] at *); subst hA hS hr hfr; simp (disch := (refine KR.mk ?_; kernel_rfl)) only [alg, obP_iff, condP_iff, retP_iff, retM_iff, ofNat_cast, nc, Int.toNat_natCast, decide_eq_true_eq, decide_eq_false_iff_not, wrap_w64, retS_iff, Bool.not_eq_true', Bool.not_eq_false', beq_iff_eq, beq_eq_false_iff_ne, AV.bool.injEq, AV.int.injEq, AV.t2.injEq, AV.t3.injEq, AV.own.injEq, List.cons.injEq, Prod.mk.injEq, Row.ints.injEq, RW, Row.nlen, scalar, imp_self, and_true, true_and, lexT, heldT, tailT, planT, nb, Int.toNat_zero, List.getD_cons_zero, List.getD_cons_succ, List.set_cons_zero, List.set_cons_succ, sv, sh, sb]
      refine ⟨by omega, hp.2 i (by omega), fun hb => ?_, fun hb => ⟨i + 1, ?_, ⟨by omega, ?_⟩, by omega⟩⟩
      · rw [goodB, patsB, i2, allP_drop _ _ (by omega), hb]; rfl
      · simp [Wk_iff, fr, undefs, wkT, wkV, wkH, okid, Row.nlen, Row.rk, RK.rowk, w64_eq, getO]; try omega
      · rw [i2, allP_drop _ _ (by omega), hb]; rfl
    · have hpa : p.all patB = true := by
        have hi : ¬ (i : Int) < L := by (try simp only [nc] at *); (try subst hA); (try subst hS); simp (disch := (refine KR.mk ?_; kernel_rfl)) only [alg, obP_iff, condP_iff, retP_iff, retM_iff, ofNat_cast, nc, Int.toNat_natCast, decide_eq_true_eq, decide_eq_false_iff_not, wrap_w64, retS_iff, Bool.not_eq_true', Bool.not_eq_false', beq_iff_eq, beq_eq_false_iff_ne, AV.bool.injEq, AV.int.injEq, AV.t2.injEq, AV.t3.injEq, AV.own.injEq, List.cons.injEq, Prod.mk.injEq, Row.ints.injEq, RW, Row.nlen, scalar, imp_self, and_true, true_and, lexT, heldT, tailT, planT, nb, Int.toNat_zero, List.getD_cons_zero, List.getD_cons_succ, List.set_cons_zero, List.set_cons_succ, sv, sh, sb] at hc; exact hc
        have hi2 : p.length ≤ i := by
          (try simp only [nc] at *)
          omega
        rw [i2, List.drop_of_length_le hi2]; rfl
      clear hc i1 i2
      refine loop2 (fun (j : Nat) (B : List (List UInt8)) => ⟨fr 55 [(0, .ro (.strs p)), (1, .ro (.strs e)), (7, .own 1 true), (23, .ro (.strs e)), (24, .int .i64 M), (25, .int .i64 j)], [.dead, .row 9 (.strs B)]⟩)
        (fun j B => j ≤ e.length ∧ B = (e.take j).map plainE ∧ exTo e j = true) (fun j _ => e.length - j) 0 [] ?_ ?_ ?_
      · subst hA hS; simp [Wk_iff, fr, undefs, wkT, wkV, wkH, okid, Row.nlen, Row.rk, RK.rowk, w64_eq, getO, alg, hM]
      · simp [exTo]
      · intro j B hR
        have j1 := hR.1
        have j2 := hR.2.1
        have j3 := hR.2.2
        clear hR
        cbv
        (try simp only [nc] at *); subst hA hS hr hfr; simp (disch := (refine KR.mk ?_; kernel_rfl)) only [alg, obP_iff, condP_iff, retP_iff, retM_iff, ofNat_cast, nc, Int.toNat_natCast, decide_eq_true_eq, decide_eq_false_iff_not, wrap_w64, retS_iff, Bool.not_eq_true', Bool.not_eq_false', beq_iff_eq, beq_eq_false_iff_ne, AV.bool.injEq, AV.int.injEq, AV.t2.injEq, AV.t3.injEq, AV.own.injEq, List.cons.injEq, Prod.mk.injEq, Row.ints.injEq, RW, Row.nlen, scalar, imp_self, and_true, true_and, lexT, heldT, tailT, planT, nb, Int.toNat_zero, List.getD_cons_zero, List.getD_cons_succ, List.set_cons_zero, List.set_cons_succ, sv, sh, sb]
        have hen := he.1
        have hpn := hp.1
        have hBl : B.length = j := by rw [j2, List.length_map, List.length_take]; omega
        have hx : (!bB (e.getD j []) || hasB B (bL (e.getD j []))) = !(excB (e.getD j []) && !hasB ((e.take j).map plainE) (plainE (e.getD j []))) := by
          rw [bB_eq, j2]
          cases hq : excB (e.getD j []) with
          | false => rfl
          | true => rw [(bL_eq hq).1]; cases hasB ((e.take j).map plainE) (plainE (e.getD j [])) <;> rfl
        rw [hx]
        refine ⟨fun hj => ⟨by omega, he.2 j (by omega), fun _ => by omega, fun hb => ?_, fun hb => ?_⟩, fun hj => ?_⟩
        · rw [goodB, excsB, exTo_bad (n := e.length) (i := j) (by omega) ((Bool.not_eq_true' _) ▸ hb)]; simp
        · have hb2 : (excB (e.getD j []) && !hasB ((e.take j).map plainE) (plainE (e.getD j []))) = true := (Bool.not_eq_false' _) ▸ hb
          have hq : excB (e.getD j []) = true := by
            rw [Bool.and_eq_true] at hb2; exact hb2.1
          refine ⟨by omega, by simp, j + 1, B ++ [bL (e.getD j [])], ?_, ⟨by omega, ?_, ?_⟩, by omega⟩
          · simp [Wk_iff, fr, undefs, wkT, wkV, wkH, okid, Row.nlen, Row.rk, RK.rowk, w64_eq, getO]; try omega
          · rw [j2, take_getD [] _ _ (by omega), List.map_append, (bL_eq hq).1]; rfl
          · rw [exTo_succ, j3, hb2]; rfl
        · have ej : j = e.length := by omega
          subst ej
          rw [goodB, patsB, excsB, hpa, j3]; rfl
structure Sx extends Sw where
  goodB : List (List UInt8) → List (List UInt8) → Bool
  askB : List (List UInt8) → List (List UInt8) → List UInt8 → Bool
  pa : List (List UInt8) → List (List UInt8) → List UInt8 → Prop
def sx : Sx := { sw with goodB := goodB, askB := askB, pa := fun p e w => allS p ∧ allS e ∧ w.length ≤ 1048576 }
def W2 (S : Sx) : List (Nat × (List AV → CR)) :=
  (25, fun args => match args with | [.ro (.strs p), .ro (.strs e)] => .pure (S.allS p ∧ S.allS e) (.bool (S.goodB p e)) [] | _ => .no) ::
  W1 S.toSv
set_option maxRecDepth 100000 in
theorem W2_ok : TabOK Tryd.prog (tfind (W2 sx)) := by
  refine tab_cons (fun args => ?_) (W1_ok)
  · split
    · exact ent_pure fun h => good_ok _ _ h.1 h.2
    · exact ent_no
theorem asked_ok (p e : List (List UInt8)) (w : List UInt8) (hp : allS p) (he : allS e) (hw : w.length ≤ 1048576) : FC Tryd.prog 15 [.ro (.strs p), .ro (.strs e), .str w] (.bool (askB p e w)) [] := by
  refine fc_eval sx W2 W2_ok hT hm Tryd.func15 rfl (by kernel_rfl) rfl rfl ?_
  intro A S r0 fr0 hA hS hr hfr
  cbv
  (try simp only [nc] at *); subst hA hS hr hfr; simp (disch := (refine KR.mk ?_; kernel_rfl)) only [alg, obP_iff, condP_iff, retP_iff, retM_iff, ofNat_cast, nc, Int.toNat_natCast, decide_eq_true_eq, decide_eq_false_iff_not, wrap_w64, retS_iff, Bool.not_eq_true', Bool.not_eq_false', beq_iff_eq, beq_eq_false_iff_ne, AV.bool.injEq, AV.int.injEq, AV.t2.injEq, AV.t3.injEq, AV.own.injEq, List.cons.injEq, Prod.mk.injEq, Row.ints.injEq, RW, Row.nlen, scalar, imp_self, and_true, true_and, lexT, heldT, tailT, planT, nb, Int.toNat_zero, List.getD_cons_zero, List.getD_cons_succ, List.set_cons_zero, List.set_cons_succ, sx, sw, sv, sh, sb, askB]
  simp [hp, he, hw]
end Go.Proofs.YtcbfpkdcgbkfaaaDoor
