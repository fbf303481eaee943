/-
  Stocks: the law on the counts of a rule.
-/
import Derived.Test.YthnbajdkimgigaaR4
set_option linter.unusedSimpArgs false
set_option linter.unusedVariables false
namespace Go.Proofs.Ythnbajdkimgigaa
open Go.Ab

def rlB (l : List (List Int)) (n : Int) : Bool := stB l && inR n 1 400
def roB (l : List (List Int)) (n : Int) : Bool := rlB l n && hasS l n.toNat
def roL (l : List (List Int)) (n : Int) : List Int := if roB l n then bestL (lsL l) (csL l) n.toNat else []
structure Sp3 extends Sp2 where
  bestS : List (List Int) → Int → List Int
  bestW : List Int → List Int → Int → List Int
  no : List (List Int) → Int → Prop
  yes : List (List Int) → Int → Prop
  noW : List Int → List Int → Int → Prop
  yesW : List Int → List Int → Int → Prop
  roB : List (List Int) → Int → Bool
  roL : List (List Int) → Int → List Int
  hasS : List (List Int) → Int → Bool
  rvL : List (List Int) → Int → List Int
def sp3 : Sp3 := { sp2 with bestS := fun l n => bestL (lsL l) (csL l) n.toNat, bestW := fun ws st n => bestL ws st n.toNat, no := fun l n => okS l ∧ (0 ≤ n ∧ n ≤ 400) ∧ hasS l n.toNat = false, yes := fun l n => okS l ∧ (0 ≤ n ∧ n ≤ 400) ∧ hasS l n.toNat = true, noW := fun ws st n => dpP ws st n ∧ hasB ws st n.toNat = false, yesW := fun ws st n => dpP ws st n ∧ hasB ws st n.toNat = true, roB := roB, roL := roL, hasS := fun l n => hasS l n.toNat, rvL := fun l n => rvL l n.toNat }
theorem isRL_ok (n : Int) : FC Try.prog 29 [.int .i64 n] (.bool (inR n 1 400)) [] := by
  refine fc_eval sp2 F2 F2_ok hT hm Try.func29 rfl (by kernel_rfl) rfl rfl ?_
  intro A S r0 fr0 hA hS hr hfr
  cbv
  (try simp only [nc] at *); subst hA hS hr hfr; simp (disch := (refine KR.mk ?_; kernel_rfl)) only [alg, obP_iff, condP_iff, retP_iff, retM_iff, ofNat_cast, nc, Int.toNat_natCast, decide_eq_true_eq, decide_eq_false_iff_not, wrap_w64, retS_iff, Bool.not_eq_true', Bool.not_eq_false', beq_iff_eq, beq_eq_false_iff_ne, AV.bool.injEq, AV.int.injEq, AV.t2.injEq, AV.t3.injEq, AV.own.injEq, List.cons.injEq, Prod.mk.injEq, Row.ints.injEq, RW, Row.nlen, scalar, imp_self, and_true, true_and, lexT, heldT, tailT, planT, nb, Int.toNat_zero, List.getD_cons_zero, List.getD_cons_succ, List.set_cons_zero, List.set_cons_succ, sp2, sp, sb]
theorem ruLen_ok (n : Int) : FC Try.prog 20 [.int .i64 n] (.bool (inR n 1 400)) [] := by
  refine fc_eval sp2 F2 F2_ok hT hm Try.func20 rfl (by kernel_rfl) rfl rfl ?_
  intro A S r0 fr0 hA hS hr hfr
  cbv
  (try simp only [nc] at *); subst hA hS hr hfr; simp (disch := (refine KR.mk ?_; kernel_rfl)) only [alg, obP_iff, condP_iff, retP_iff, retM_iff, ofNat_cast, nc, Int.toNat_natCast, decide_eq_true_eq, decide_eq_false_iff_not, wrap_w64, retS_iff, Bool.not_eq_true', Bool.not_eq_false', beq_iff_eq, beq_eq_false_iff_ne, AV.bool.injEq, AV.int.injEq, AV.t2.injEq, AV.t3.injEq, AV.own.injEq, List.cons.injEq, Prod.mk.injEq, Row.ints.injEq, RW, Row.nlen, scalar, imp_self, and_true, true_and, lexT, heldT, tailT, planT, nb, Int.toNat_zero, List.getD_cons_zero, List.getD_cons_succ, List.set_cons_zero, List.set_cons_succ, sp2, sp, sb]
def G0 (S : Sp3) : List (Nat × (List AV → CR)) :=
  (29, fun args => match args with | [.int .i64 n] => .pure (True) (.bool (S.inR n 1 400)) [] | _ => .no) ::
  (20, fun args => match args with | [.int .i64 n] => .pure (True) (.bool (S.inR n 1 400)) [] | _ => .no) ::
  (33, fun args => match args with | [.ro (.recs 2 l), .int .i64 n] => .pure (S.os l n) (.t2 (.own 0 true) (.bool (S.hasS l n))) [(3, .ints .i64 (S.rvL l n))] | _ => .no) ::
  F2 S.toSp2
set_option maxRecDepth 100000 in
theorem G0_ok : TabOK Try.prog (tfind (G0 sp3)) := by
  refine tab_cons (fun args => ?_) (tab_cons (fun args => ?_) (tab_cons (fun args => ?_) (F2_ok)))
  · split
    · exact ent_pure fun _ => isRL_ok _
    · exact ent_no
  · split
    · exact ent_pure fun _ => ruLen_ok _
    · exact ent_no
  · split
    · exact ent_pure fun h => ruRule_ok _ _ h.1 h.2
    · exact ent_no
def Gn (S : Sp3) : List (Nat × (List AV → CR)) :=
  (36, fun args => match args with | [.ro (.ints .i64 ws), .ro (.ints .i64 st), .int .i64 n] => .pure (S.noW ws st n) (.nilS) [] | _ => .no) ::
  G0 S
set_option maxRecDepth 100000 in
theorem Gn_ok : TabOK Try.prog (tfind (Gn sp3)) := by
  refine tab_cons (fun args => ?_) (G0_ok)
  · split
    · exact ent_pure fun h => bestOf_none _ _ _ h.1 h.2
    · exact ent_no
def Gy (S : Sp3) : List (Nat × (List AV → CR)) :=
  (36, fun args => match args with | [.ro (.ints .i64 ws), .ro (.ints .i64 st), .int .i64 n] => .pure (S.yesW ws st n) (.own 0 false) [(3, .ints .i64 (S.bestW ws st n))] | _ => .no) ::
  G0 S
set_option maxRecDepth 100000 in
theorem Gy_ok : TabOK Try.prog (tfind (Gy sp3)) := by
  refine tab_cons (fun args => ?_) (G0_ok)
  · split
    · exact ent_pure fun h => bestOf_some _ _ _ h.1 h.2
    · exact ent_no
theorem ruleOf_none (l : List (List Int)) (n : Int) (hs : okS l) (hn : 0 ≤ n ∧ n ≤ 400) (hb : hasS l n.toNat = false) : FC Try.prog 30 [.ro (.recs 2 l), .int .i64 n] .nilS [] := by
  refine fc_eval sp3 Gn Gn_ok hT hm Try.func30 rfl (by kernel_rfl) rfl rfl ?_
  intro A S r0 fr0 hA hS hr hfr
  cbv
  (try simp only [nc] at *); subst hA hS hr hfr; simp (disch := (refine KR.mk ?_; kernel_rfl)) only [alg, obP_iff, condP_iff, retP_iff, retM_iff, ofNat_cast, nc, Int.toNat_natCast, decide_eq_true_eq, decide_eq_false_iff_not, wrap_w64, retS_iff, Bool.not_eq_true', Bool.not_eq_false', beq_iff_eq, beq_eq_false_iff_ne, AV.bool.injEq, AV.int.injEq, AV.t2.injEq, AV.t3.injEq, AV.own.injEq, List.cons.injEq, Prod.mk.injEq, Row.ints.injEq, RW, Row.nlen, scalar, imp_self, and_true, true_and, lexT, heldT, tailT, planT, nb, Int.toNat_zero, List.getD_cons_zero, List.getD_cons_succ, List.set_cons_zero, List.set_cons_succ, sp3, sp2, sp, sb]
  exact ⟨by have := hs.1; omega, okS_dp hs hn, hb⟩
theorem ruleOf_some (l : List (List Int)) (n : Int) (hs : okS l) (hn : 0 ≤ n ∧ n ≤ 400) (hb : hasS l n.toNat = true) : FC Try.prog 30 [.ro (.recs 2 l), .int .i64 n] (.own 0 false) [(3, .ints .i64 (bestL (lsL l) (csL l) n.toNat))] := by
  refine fc_eval sp3 Gy Gy_ok hT hm Try.func30 rfl (by kernel_rfl) rfl rfl ?_
  intro A S r0 fr0 hA hS hr hfr
  cbv
  (try simp only [nc] at *); subst hA hS hr hfr; simp (disch := (refine KR.mk ?_; kernel_rfl)) only [alg, obP_iff, condP_iff, retP_iff, retM_iff, ofNat_cast, nc, Int.toNat_natCast, decide_eq_true_eq, decide_eq_false_iff_not, wrap_w64, retS_iff, Bool.not_eq_true', Bool.not_eq_false', beq_iff_eq, beq_eq_false_iff_ne, AV.bool.injEq, AV.int.injEq, AV.t2.injEq, AV.t3.injEq, AV.own.injEq, List.cons.injEq, Prod.mk.injEq, Row.ints.injEq, RW, Row.nlen, scalar, imp_self, and_true, true_and, lexT, heldT, tailT, planT, nb, Int.toNat_zero, List.getD_cons_zero, List.getD_cons_succ, List.set_cons_zero, List.set_cons_succ, sp3, sp2, sp, sb]
  exact ⟨by have := hs.1; omega, okS_dp hs hn, hb⟩
def Hn (S : Sp3) : List (Nat × (List AV → CR)) :=
  (30, fun args => match args with | [.ro (.recs 2 l), .int .i64 n] => .pure (S.no l n) (.nilS) [] | _ => .no) ::
  G0 S
set_option maxRecDepth 100000 in
theorem Hn_ok : TabOK Try.prog (tfind (Hn sp3)) := by
  refine tab_cons (fun args => ?_) (G0_ok)
  · split
    · exact ent_pure fun h => ruleOf_none _ _ h.1 h.2.1 h.2.2
    · exact ent_no
def Hy (S : Sp3) : List (Nat × (List AV → CR)) :=
  (30, fun args => match args with | [.ro (.recs 2 l), .int .i64 n] => .pure (S.yes l n) (.own 0 false) [(3, .ints .i64 (S.bestS l n))] | _ => .no) ::
  G0 S
set_option maxRecDepth 100000 in
theorem Hy_ok : TabOK Try.prog (tfind (Hy sp3)) := by
  refine tab_cons (fun args => ?_) (G0_ok)
  · split
    · exact ent_pure fun h => ruleOf_some _ _ h.1 h.2.1 h.2.2
    · exact ent_no
def K0 (S : Sp3) : List (Nat × (List AV → CR)) :=
  G0 S
set_option maxRecDepth 100000 in
theorem K0_ok : TabOK Try.prog (tfind (K0 sp3)) := by
  refine G0_ok
theorem roL_len (l : List (List Int)) (n : Int) : (roL l n).length ≤ 8 := by
  unfold roL; split
  · rename_i h
    simp only [roB, rlB, Bool.and_eq_true] at h
    have := stB_len h.1.1
    rw [bestL, bs_len, lsL_len]; exact this
  · simp
end Go.Proofs.Ythnbajdkimgigaa
