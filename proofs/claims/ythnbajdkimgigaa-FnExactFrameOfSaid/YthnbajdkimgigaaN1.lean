/-
  Rules one after the other: the specification.
-/
import Derived.Test.YthnbajdkimgigaaN0
set_option linter.unusedSimpArgs false
set_option linter.unusedVariables false
namespace Go.Proofs.Ythnbajdkimgigaa
open Go.Ab

def ruP (l : List (List Int)) (ns : List Int) : Prop := okS l ∧ ns.length ≤ 6 ∧ ∀ i, i < ns.length → 0 ≤ ns.getD i 0 ∧ ns.getD i 0 ≤ 400
structure Sq extends Sp3 where
  ruB : List (List Int) → List Int → Bool
  ruV : List (List Int) → List Int → List (List Int)
  ruP : List (List Int) → List Int → Prop
  rzB : List (List Int) → List Int → Bool
  rzV : List (List Int) → List Int → List (List Int)
  eqLL : List (List Int) → List (List Int) → Bool
  heldLL : List (List Int) → Int → Int
  totK : List (List Int) → Int → Int
  upLL : List (List Int) → Int → List (List Int)
  smT : List (List Int) → Prop
  kq : Int → Prop
def sq : Sq := { sp3 with ruB := ruB, ruV := ruV, ruP := ruP, rzB := rzB, rzV := rzV, eqLL := eqLL, heldLL := heldLL, totK := fun a k => k + totL a, upLL := upLL, smT := smT, kq := fun k => 0 ≤ k ∧ k ≤ 1000000 }
def N1 (S : Sq) : List (Nat × (List AV → CR)) :=
  (31, fun args => match args with | [.ro (.recs 2 l), .ro (.ints .i64 c)] => .pure (S.cl l c) (.own 0 true) [(44, .recs 2 (S.rsL l c))] | _ => .no) ::
  (34, fun args => match args with | [.ro (.recs 2 l), .ro (.ints .i64 c)] => .pure (S.cl l c) (.own 0 true) [(44, .recs 2 (S.rsL l c))] | _ => .no) ::
  G0 S.toSp3
set_option maxRecDepth 100000 in
theorem N1_ok : TabOK Try.prog (tfind (N1 sq)) := by
  refine tab_cons (fun args => ?_) (tab_cons (fun args => ?_) (G0_ok))
  · split
    · exact ent_pure fun h => implRest_ok _ _ h.2 h.1
    · exact ent_no
  · split
    · exact ent_pure fun h => specRest_ok _ _ h.2 h.1
    · exact ent_no
theorem rvL_eq {l : List (List Int)} {n : Int} (h : hasS l n.toNat = true) : rvL l n.toNat = bstS l n := by rw [rvL, if_pos h]; rfl
set_option maxRecDepth 100000 in
set_option maxHeartbeats 1000000 in
theorem ruRules_ok (l : List (List Int)) (ns : List Int) (h : ruP l ns) : FC Try.prog 22 [.ro (.recs 2 l), .ro (.ints .i64 ns)] (.t2 (.own 0 true) (.bool (ruB l ns))) [(34, .intss (ruV l ns))] := by
  refine fc_eval sq N1 N1_ok hT hm Try.func22 rfl (by kernel_rfl) rfl rfl ?_
  intro A S r0 fr0 hA hS hr hfr
  cbv
  obtain ⟨hs, hn6, hnb⟩ := h
  obtain ⟨L, hL⟩ : ∃ L : Int, L = ns.length := ⟨_, rfl⟩
  refine loop3 (fun (j : Nat) (lk out : List (List Int)) => ⟨fr 34 [(0, .ro (.recs 2 lk)), (6, .own 1 true), (11, .ro (.ints .i64 ns)), (12, .int .i64 L), (13, .int .i64 j)], [.dead, .row 34 (.intss out)]⟩)
    (fun j lk out => j ≤ ns.length ∧ okS lk ∧ out.length = j ∧ ruC l ns lk out j) (fun j _ _ => ns.length - j) 0 l [] ?_ ?_ ?_
  · subst hA hS; simp [Wk_iff, fr, undefs, wkT, wkV, wkH, okid, Row.nlen, Row.rk, RK.rowk, getO, alg, hL]
  · exact ⟨by omega, hs, rfl, ruC_0 _ _⟩
  · intro j lk out hR
    have j1 := hR.1
    have j2 := hR.2.1
    have j3 := hR.2.2.1
    have j4 := hR.2.2.2
    clear hR
    have HS := Hd.mk j2
    have HC := Hd.mk j4
    clear j2 j4
    cbv
    (try simp only [nc] at *)
    refine condP.mk (fun hc => ?_) (fun hc => ?_)
    · have hj : j < ns.length := by
        have : (j : Int) < L := by (try simp only [nc] at *); (try subst hA); (try subst hS); simp (disch := (refine KR.mk ?_; kernel_rfl)) only [alg, obP_iff, condP_iff, retP_iff, retM_iff, ofNat_cast, nc, Int.toNat_natCast, decide_eq_true_eq, decide_eq_false_iff_not, wrap_w64, retS_iff, Bool.not_eq_true', Bool.not_eq_false', beq_iff_eq, beq_eq_false_iff_ne, AV.bool.injEq, AV.int.injEq, AV.t2.injEq, AV.t3.injEq, AV.own.injEq, List.cons.injEq, Prod.mk.injEq, Row.ints.injEq, RW, Row.nlen, scalar, imp_self, and_true, true_and, lexT, heldT, tailT, planT, nb, Int.toNat_zero, List.getD_cons_zero, List.getD_cons_succ, List.set_cons_zero, List.set_cons_succ, sq, sp3, sp2, sp, sb] at hc; exact hc
        omega
      clear hc
      have hb := hnb j hj
      obtain ⟨n, hne⟩ : ∃ n, n = ns.getD j 0 := ⟨_, rfl⟩
      rw [← hne] at hb
      have j2 := HS.h
      have hlk := j2.1
      refine obP.mk (by subst hA; simp only [alg, ofNat_cast]; omega) ?_
      refine obP.mk (by subst hA hS; simp only [alg, ofNat_cast, Int.toNat_natCast, ← hne]; exact ⟨j2, hb⟩) ?_
      refine condP.mk (fun hc => ?_) (fun hc => ?_)
      · have hf : hasS lk n.toNat = false := by
          (try simp only [nc] at *); (try subst hA); (try subst hS); simp (disch := (refine KR.mk ?_; kernel_rfl)) only [alg, obP_iff, condP_iff, retP_iff, retM_iff, ofNat_cast, nc, Int.toNat_natCast, decide_eq_true_eq, decide_eq_false_iff_not, wrap_w64, retS_iff, Bool.not_eq_true', Bool.not_eq_false', beq_iff_eq, beq_eq_false_iff_ne, AV.bool.injEq, AV.int.injEq, AV.t2.injEq, AV.t3.injEq, AV.own.injEq, List.cons.injEq, Prod.mk.injEq, Row.ints.injEq, RW, Row.nlen, scalar, imp_self, and_true, true_and, lexT, heldT, tailT, planT, nb, Int.toNat_zero, List.getD_cons_zero, List.getD_cons_succ, List.set_cons_zero, List.set_cons_succ, sq, sp3, sp2, sp, sb, ← hne] at hc
          exact hc
        have hnone := ruC_n HC.h hj (by rw [← hne]; exact hf)
        (try simp only [nc] at *); subst hA hS hr hfr; simp (disch := (refine KR.mk ?_; kernel_rfl)) only [alg, obP_iff, condP_iff, retP_iff, retM_iff, ofNat_cast, nc, Int.toNat_natCast, decide_eq_true_eq, decide_eq_false_iff_not, wrap_w64, retS_iff, Bool.not_eq_true', Bool.not_eq_false', beq_iff_eq, beq_eq_false_iff_ne, AV.bool.injEq, AV.int.injEq, AV.t2.injEq, AV.t3.injEq, AV.own.injEq, List.cons.injEq, Prod.mk.injEq, Row.ints.injEq, RW, Row.nlen, scalar, imp_self, and_true, true_and, lexT, heldT, tailT, planT, nb, Int.toNat_zero, List.getD_cons_zero, List.getD_cons_succ, List.set_cons_zero, List.set_cons_succ, sq, sp3, sp2, sp, sb]
        simp [ruB, ruV, hnone]
      · have hf : hasS lk n.toNat = true := by
          (try simp only [nc] at *); (try subst hA); (try subst hS); simp (disch := (refine KR.mk ?_; kernel_rfl)) only [alg, obP_iff, condP_iff, retP_iff, retM_iff, ofNat_cast, nc, Int.toNat_natCast, decide_eq_true_eq, decide_eq_false_iff_not, wrap_w64, retS_iff, Bool.not_eq_true', Bool.not_eq_false', beq_iff_eq, beq_eq_false_iff_ne, AV.bool.injEq, AV.int.injEq, AV.t2.injEq, AV.t3.injEq, AV.own.injEq, List.cons.injEq, Prod.mk.injEq, Row.ints.injEq, RW, Row.nlen, scalar, imp_self, and_true, true_and, lexT, heldT, tailT, planT, nb, Int.toNat_zero, List.getD_cons_zero, List.getD_cons_succ, List.set_cons_zero, List.set_cons_succ, sq, sp3, sp2, sp, sb, ← hne] at hc
          exact hc
        have hst := ruC_y HC.h hj (by rw [← hne]; exact hf)
        rw [← hne] at hst
        have hrv := rvL_eq hf
        (try simp only [nc] at *); subst hA hS hr hfr; simp (disch := (refine KR.mk ?_; kernel_rfl)) only [alg, obP_iff, condP_iff, retP_iff, retM_iff, ofNat_cast, nc, Int.toNat_natCast, decide_eq_true_eq, decide_eq_false_iff_not, wrap_w64, retS_iff, Bool.not_eq_true', Bool.not_eq_false', beq_iff_eq, beq_eq_false_iff_ne, AV.bool.injEq, AV.int.injEq, AV.t2.injEq, AV.t3.injEq, AV.own.injEq, List.cons.injEq, Prod.mk.injEq, Row.ints.injEq, RW, Row.nlen, scalar, imp_self, and_true, true_and, lexT, heldT, tailT, planT, nb, Int.toNat_zero, List.getD_cons_zero, List.getD_cons_succ, List.set_cons_zero, List.set_cons_succ, sq, sp3, sp2, sp, sb, ← hne, hrv]
        have hbl := bstS_len lk n
        have w1 : w64 ((j : Int) + 1) = ((j + 1 : Nat) : Int) := by rw [w64_id (by omega)]; omega
        simp only [w1]
        refine ⟨by omega, by simp, ⟨by omega, by omega⟩, j + 1, nxS lk n, out ++ [bstS lk n], ?_, ⟨by omega, okS_nx j2, by simp [j3], hst⟩, by omega⟩
        simp [Wk_iff, fr, undefs, wkT, wkV, wkH, okid, Row.nlen, Row.rk, RK.rowk, getO, nxS]
    · have hj : ns.length ≤ j := by
        have : ¬ (j : Int) < L := by (try simp only [nc] at *); (try subst hA); (try subst hS); simp (disch := (refine KR.mk ?_; kernel_rfl)) only [alg, obP_iff, condP_iff, retP_iff, retM_iff, ofNat_cast, nc, Int.toNat_natCast, decide_eq_true_eq, decide_eq_false_iff_not, wrap_w64, retS_iff, Bool.not_eq_true', Bool.not_eq_false', beq_iff_eq, beq_eq_false_iff_ne, AV.bool.injEq, AV.int.injEq, AV.t2.injEq, AV.t3.injEq, AV.own.injEq, List.cons.injEq, Prod.mk.injEq, Row.ints.injEq, RW, Row.nlen, scalar, imp_self, and_true, true_and, lexT, heldT, tailT, planT, nb, Int.toNat_zero, List.getD_cons_zero, List.getD_cons_succ, List.set_cons_zero, List.set_cons_succ, sq, sp3, sp2, sp, sb] at hc; exact hc
        omega
      have hsome := ruC_e HC.h hj
      (try simp only [nc] at *); subst hA hS hr hfr; simp (disch := (refine KR.mk ?_; kernel_rfl)) only [alg, obP_iff, condP_iff, retP_iff, retM_iff, ofNat_cast, nc, Int.toNat_natCast, decide_eq_true_eq, decide_eq_false_iff_not, wrap_w64, retS_iff, Bool.not_eq_true', Bool.not_eq_false', beq_iff_eq, beq_eq_false_iff_ne, AV.bool.injEq, AV.int.injEq, AV.t2.injEq, AV.t3.injEq, AV.own.injEq, List.cons.injEq, Prod.mk.injEq, Row.ints.injEq, RW, Row.nlen, scalar, imp_self, and_true, true_and, lexT, heldT, tailT, planT, nb, Int.toNat_zero, List.getD_cons_zero, List.getD_cons_succ, List.set_cons_zero, List.set_cons_succ, sq, sp3, sp2, sp, sb]
      simp [ruB, ruV, hsome]
end Go.Proofs.Ythnbajdkimgigaa
