/-
  Hyphens in words: the values, as the specification reckons them.
-/
import Derived.Test.YtcbfpkdcgbkfaaaDoorV6
set_option linter.unusedSimpArgs false
set_option linter.unusedVariables false
namespace Go.Proofs.YtcbfpkdcgbkfaaaDoor
open Go.Ab Go.RowKit

theorem pre_take {L w : List UInt8} {a : Nat} : ((w.take (a + L.length)).drop a == L) = L.isPrefixOf (w.drop a) := by
  rw [Bool.eq_iff_iff, beq_iff_eq, List.isPrefixOf_iff_prefix, List.prefix_iff_eq_take, List.drop_take, Nat.add_sub_cancel_left]
  exact ⟨fun h => h.symm, fun h => h.symm⟩
set_option maxRecDepth 100000 in
set_option maxHeartbeats 1000000 in
theorem specVals_ok (ps : List (List UInt8)) (w : List UInt8) (hp : allS ps) (hb : ps.all patB = true) (hw : letB w 1 16 = true) : FC Tryd.prog 28 [.ro (.strs ps), .str w] (.own 0 false) [(3, .ints .i64 (vals ps w))] := by
  refine fc_eval sx X1 X1_ok hT hm Tryd.func28 rfl (by kernel_rfl) rfl rfl ?_
  intro A S r0 fr0 hA hS hr hfr
  cbv
  obtain ⟨L, hL⟩ : ∃ L : Int, L = ps.length := ⟨_, rfl⟩
  obtain ⟨_, hw1, hw16⟩ := (letB_iff w 1 16).1 hw
  obtain ⟨n, hn⟩ : ∃ n : Nat, n = w.length - 1 := ⟨_, rfl⟩
  have wn : w64 ((w.length : Int) - 1) = (n : Int) := by rw [w64_id (by omega)]; omega
  refine ⟨by subst hA; simp only [alg, wrap_w64, wn]; omega, by subst hA; simp [alg], ?_⟩
  refine loop2 (fun (j : Nat) (o : List Int) => ⟨fr 77 [(1, .str w), (5, .own 1 false), (19, .ro (.strs ps)), (20, .int .i64 L), (21, .int .i64 j)], [.dead, .row 3 (.ints .i64 o)]⟩)
    (fun j o => j ≤ ps.length ∧ o.length = n ∧ vals ps w = (ps.drop j).foldl (fun o p => vP w p o w.length) o) (fun j _ => ps.length - j) 0 (List.replicate n 0) ?_ ?_ ?_
  · subst hA hS; simp [Wk_iff, fr, undefs, wkT, wkV, wkH, okid, Row.nlen, Row.rk, RK.rowk, getO, alg, hL, wrap_w64, wn]
  · simp [vals, hn]
  · intro j o hR
    have j1 := hR.1
    have j2 := hR.2.1
    have j3 := hR.2.2
    clear hR
    cbv
    refine condP.mk (fun hc => ?_) (fun hc => ?_)
    · have hj : j < ps.length := by
        have : (j : Int) < L := by (try simp only [nc] at *); (try subst hA); (try subst hS); simp (disch := (refine KR.mk ?_; kernel_rfl)) only [alg, obP_iff, condP_iff, retP_iff, retM_iff, ofNat_cast, nc, Int.toNat_natCast, decide_eq_true_eq, decide_eq_false_iff_not, wrap_w64, retS_iff, Bool.not_eq_true', Bool.not_eq_false', beq_iff_eq, beq_eq_false_iff_ne, AV.bool.injEq, AV.int.injEq, AV.t2.injEq, AV.t3.injEq, AV.own.injEq, List.cons.injEq, Prod.mk.injEq, Row.ints.injEq, RW, Row.nlen, scalar, imp_self, and_true, true_and, lexT, heldT, tailT, planT, nb, Int.toNat_zero, List.getD_cons_zero, List.getD_cons_succ, List.set_cons_zero, List.set_cons_succ, sx, sw, sv, sh, sb] at hc; exact hc
        (try simp only [nc] at *)
        omega
      clear hc
      obtain ⟨p, hpe⟩ : ∃ p, p = ps.getD j [] := ⟨_, rfl⟩
      obtain ⟨Lq, hLq⟩ : ∃ Lq, Lq = patL p := ⟨_, rfl⟩
      obtain ⟨Vq, hVq⟩ : ∃ Vq, Vq = patV p := ⟨_, rfl⟩
      have hpb : patB p = true := by
        rw [List.all_eq_true] at hb
        exact hb p (by rw [hpe, List.getD_eq_getElem?_getD, List.getElem?_eq_getElem hj]; simp)
      have hVl := patV_len hpb
      have hLl := pat_len hpb
      rw [← hVq, ← hLq] at hVl
      rw [← hLq] at hLl
      refine obP.mk (by subst hA; simp only [alg, ofNat_cast]; (try simp only [nc] at *); omega) ?_
      refine obP.mk (by subst hA hS; exact hp.2 j hj) ?_
      refine loop2 (fun (a : Nat) (q : List Int) => ⟨fr 77 [(1, .str w), (5, .own 1 false), (8, .str Lq), (9, .own 2 true), (11, .int .i64 a), (19, .ro (.strs ps)), (20, .int .i64 L), (21, .int .i64 j)], [.dead, .row 3 (.ints .i64 q), .row 3 (.ints .i64 Vq)]⟩)
        (fun a q => a ≤ w.length ∧ q.length = n ∧ q = vP w p o a) (fun a _ => w.length - a) 0 o ?_ ?_ ?_
      · subst hA hS; simp [Wk_iff, fr, undefs, wkT, wkV, wkH, okid, Row.nlen, Row.rk, RK.rowk, getO, alg, hL, hLq, hVq, hpe, sx, sw, sv, sh]
      · simp [vP, j2]
      · intro a q hR
        have a1 := hR.1
        have a2 := hR.2.1
        have a3 := hR.2.2
        clear hR
        cbv
        (try simp only [nc] at *)
        have wal : w64 ((a : Int) + (Lq.length : Nat)) = ((a + Lq.length : Nat) : Int) := by rw [w64_id (by omega)]; omega
        refine condP.mk (fun hc => ?_) (fun hc => ?_)
        · have ha : a + Lq.length ≤ w.length := by
            have : w64 ((a : Int) + (Lq.length : Nat)) ≤ (w.length : Int) := by (try simp only [nc] at *); (try subst hA); (try subst hS); simp (disch := (refine KR.mk ?_; kernel_rfl)) only [alg, obP_iff, condP_iff, retP_iff, retM_iff, ofNat_cast, nc, Int.toNat_natCast, decide_eq_true_eq, decide_eq_false_iff_not, wrap_w64, retS_iff, Bool.not_eq_true', Bool.not_eq_false', beq_iff_eq, beq_eq_false_iff_ne, AV.bool.injEq, AV.int.injEq, AV.t2.injEq, AV.t3.injEq, AV.own.injEq, List.cons.injEq, Prod.mk.injEq, Row.ints.injEq, RW, Row.nlen, scalar, imp_self, and_true, true_and, lexT, heldT, tailT, planT, nb, Int.toNat_zero, List.getD_cons_zero, List.getD_cons_succ, List.set_cons_zero, List.set_cons_succ, sx, sw, sv, sh, sb] at hc; exact hc
            omega
          clear hc
          refine obP.mk (by subst hA; simp only [alg, wrap_w64, wal, ofNat_cast]; omega) ?_
          refine obP.mk (by subst hA; simp only [alg, wrap_w64, wal, ofNat_cast]; omega) ?_
          have htn : (w64 ((a : Int) + (Lq.length : Nat))).toNat = a + Lq.length := by rw [wal, Int.toNat_natCast]
          have hpt := pre_take (L := Lq) (w := w) (a := a)
          refine condP.mk (fun hnp => ?_) (fun hyp => ?_)
          · have hnp : Lq.isPrefixOf (w.drop a) = false := by
              (try simp only [nc] at *); (try subst hA); (try subst hS); simp (disch := (refine KR.mk ?_; kernel_rfl)) only [alg, obP_iff, condP_iff, retP_iff, retM_iff, ofNat_cast, nc, Int.toNat_natCast, decide_eq_true_eq, decide_eq_false_iff_not, wrap_w64, retS_iff, Bool.not_eq_true', Bool.not_eq_false', beq_iff_eq, beq_eq_false_iff_ne, AV.bool.injEq, AV.int.injEq, AV.t2.injEq, AV.t3.injEq, AV.own.injEq, List.cons.injEq, Prod.mk.injEq, Row.ints.injEq, RW, Row.nlen, scalar, imp_self, and_true, true_and, lexT, heldT, tailT, planT, nb, Int.toNat_zero, List.getD_cons_zero, List.getD_cons_succ, List.set_cons_zero, List.set_cons_succ, sx, sw, sv, sh, sb, htn] at hnp
              rw [← hpt, beq_eq_false_iff_ne]; exact hnp
            refine ⟨a + 1, q, ?_, ⟨by omega, a2, ?_⟩, by omega⟩
            · subst hA hS; simp [Wk_iff, fr, undefs, wkT, wkV, wkH, okid, Row.nlen, Row.rk, RK.rowk, getO, alg, wrap_w64, w64_id (n := (a : Int) + 1) (by omega)]
            · rw [vP_succ, vA, ← hLq, hnp, a3]; rfl
          · have hyp2 : Lq.isPrefixOf (w.drop a) = true := by
              (try simp only [nc] at *); (try subst hA); (try subst hS); simp (disch := (refine KR.mk ?_; kernel_rfl)) only [alg, obP_iff, condP_iff, retP_iff, retM_iff, ofNat_cast, nc, Int.toNat_natCast, decide_eq_true_eq, decide_eq_false_iff_not, wrap_w64, retS_iff, Bool.not_eq_true', Bool.not_eq_false', beq_iff_eq, beq_eq_false_iff_ne, AV.bool.injEq, AV.int.injEq, AV.t2.injEq, AV.t3.injEq, AV.own.injEq, List.cons.injEq, Prod.mk.injEq, Row.ints.injEq, RW, Row.nlen, scalar, imp_self, and_true, true_and, lexT, heldT, tailT, planT, nb, Int.toNat_zero, List.getD_cons_zero, List.getD_cons_succ, List.set_cons_zero, List.set_cons_succ, sx, sw, sv, sh, sb, htn] at hyp
              rw [← hpt, beq_iff_eq]; exact hyp
            clear hyp
            obtain ⟨M, hM⟩ : ∃ M : Int, M = Vq.length := ⟨_, rfl⟩
            refine loop2 (fun (k : Nat) (r : List Int) => ⟨fr 77 [(1, .str w), (5, .own 1 false), (8, .str Lq), (9, .own 2 true), (11, .int .i64 a), (19, .ro (.strs ps)), (20, .int .i64 L), (21, .int .i64 j), (49, .own 2 true), (50, .int .i64 M), (51, .int .i64 k)], [.dead, .row 3 (.ints .i64 r), .row 3 (.ints .i64 Vq)]⟩)
              (fun k r => k ≤ Vq.length ∧ r.length = n ∧ r = vI Vq a q k) (fun k _ => Vq.length - k) 0 q ?_ ?_ ?_
            · subst hA hS; simp [Wk_iff, fr, undefs, wkT, wkV, wkH, okid, Row.nlen, Row.rk, RK.rowk, getO, alg, hM]
            · simp [vI, a2]
            · intro k r hR
              have k1 := hR.1
              have k2 := hR.2.1
              have k3 := hR.2.2
              clear hR
              cbv
              (try simp only [nc] at *); subst hA hS hr hfr; simp (disch := (refine KR.mk ?_; kernel_rfl)) only [alg, obP_iff, condP_iff, retP_iff, retM_iff, ofNat_cast, nc, Int.toNat_natCast, decide_eq_true_eq, decide_eq_false_iff_not, wrap_w64, retS_iff, Bool.not_eq_true', Bool.not_eq_false', beq_iff_eq, beq_eq_false_iff_ne, AV.bool.injEq, AV.int.injEq, AV.t2.injEq, AV.t3.injEq, AV.own.injEq, List.cons.injEq, Prod.mk.injEq, Row.ints.injEq, RW, Row.nlen, scalar, imp_self, and_true, true_and, lexT, heldT, tailT, planT, nb, Int.toNat_zero, List.getD_cons_zero, List.getD_cons_succ, List.set_cons_zero, List.set_cons_succ, sx, sw, sv, sh, sb]
              have e1 : w64 (w64 ((a : Int) + k) - 1) = (a : Int) + k - 1 := by
                rw [w64_id (n := (a : Int) + k) (by omega), w64_id (by omega)]
              have e2 : w64 ((r.length : Int) - 1) = (r.length : Int) - 1 := w64_id (by omega)
              have e3 : ((a : Int) + k - 1).toNat = a + k - 1 := by omega
              simp only [e1, e2, e3]
              refine ⟨fun hk => ⟨by omega, fun hin => ?_, fun hin => ?_⟩, fun hk => ?_⟩
              · have hin2 := inR_iff.1 hin
                refine ⟨by omega, by omega, k + 1, r.set (a + k - 1) (mst (r.getD (a + k - 1) 0) (Vq.getD k 0)), ?_, ⟨by omega, by simp [k2], ?_⟩, by omega⟩
                · simp [Wk_iff, fr, undefs, wkT, wkV, wkH, okid, Row.nlen, Row.rk, RK.rowk, getO, w64_id (n := (k : Int) + 1) (by omega)]
                · rw [vI_succ, ← k3, vS, if_pos hin]
              · refine ⟨k + 1, r, ?_, ⟨by omega, k2, ?_⟩, by omega⟩
                · simp [Wk_iff, fr, undefs, wkT, wkV, wkH, okid, Row.nlen, Row.rk, RK.rowk, getO, w64_id (n := (k : Int) + 1) (by omega)]
                · rw [vI_succ, ← k3, vS, if_neg (by rw [hin]; simp)]
              · refine ⟨a + 1, r, ?_, ⟨by omega, k2, ?_⟩, by omega⟩
                · simp [Wk_iff, fr, undefs, wkT, wkV, wkH, okid, Row.nlen, Row.rk, RK.rowk, getO, w64_id (n := (a : Int) + 1) (by omega)]
                · rw [vP_succ, ← a3, vA, ← hLq, if_pos hyp2, ← hVq, k3, show k = Vq.length by omega]
        · have ha : w.length < a + Lq.length := by
            have : ¬ w64 ((a : Int) + (Lq.length : Nat)) ≤ (w.length : Int) := by (try simp only [nc] at *); (try subst hA); (try subst hS); simp (disch := (refine KR.mk ?_; kernel_rfl)) only [alg, obP_iff, condP_iff, retP_iff, retM_iff, ofNat_cast, nc, Int.toNat_natCast, decide_eq_true_eq, decide_eq_false_iff_not, wrap_w64, retS_iff, Bool.not_eq_true', Bool.not_eq_false', beq_iff_eq, beq_eq_false_iff_ne, AV.bool.injEq, AV.int.injEq, AV.t2.injEq, AV.t3.injEq, AV.own.injEq, List.cons.injEq, Prod.mk.injEq, Row.ints.injEq, RW, Row.nlen, scalar, imp_self, and_true, true_and, lexT, heldT, tailT, planT, nb, Int.toNat_zero, List.getD_cons_zero, List.getD_cons_succ, List.set_cons_zero, List.set_cons_succ, sx, sw, sv, sh, sb] at hc; exact hc
            omega
          clear hc
          refine ⟨j + 1, q, ?_, ⟨by omega, a2, ?_⟩, by omega⟩
          · have hjl : j < 1048576 := by have := hp.1; omega
            subst hA hS; simp [Wk_iff, fr, undefs, wkT, wkV, wkH, okid, Row.nlen, Row.rk, RK.rowk, getO, alg, wrap_w64, w64_id (n := (j : Int) + 1) (by omega)]
          · rw [j3, drop_getD [] ps j hj, List.foldl_cons, ← hpe, a3, vP_end w p o a (by rw [← hLq]; omega) (by rw [← hLq]; omega) w.length a1]
    · have hj2 : ps.length ≤ j := by
        have : ¬ (j : Int) < L := by (try simp only [nc] at *); (try subst hA); (try subst hS); simp (disch := (refine KR.mk ?_; kernel_rfl)) only [alg, obP_iff, condP_iff, retP_iff, retM_iff, ofNat_cast, nc, Int.toNat_natCast, decide_eq_true_eq, decide_eq_false_iff_not, wrap_w64, retS_iff, Bool.not_eq_true', Bool.not_eq_false', beq_iff_eq, beq_eq_false_iff_ne, AV.bool.injEq, AV.int.injEq, AV.t2.injEq, AV.t3.injEq, AV.own.injEq, List.cons.injEq, Prod.mk.injEq, Row.ints.injEq, RW, Row.nlen, scalar, imp_self, and_true, true_and, lexT, heldT, tailT, planT, nb, Int.toNat_zero, List.getD_cons_zero, List.getD_cons_succ, List.set_cons_zero, List.set_cons_succ, sx, sw, sv, sh, sb] at hc; exact hc
        (try simp only [nc] at *)
        omega
      (try simp only [nc] at *); subst hA hS hr hfr; simp (disch := (refine KR.mk ?_; kernel_rfl)) only [alg, obP_iff, condP_iff, retP_iff, retM_iff, ofNat_cast, nc, Int.toNat_natCast, decide_eq_true_eq, decide_eq_false_iff_not, wrap_w64, retS_iff, Bool.not_eq_true', Bool.not_eq_false', beq_iff_eq, beq_eq_false_iff_ne, AV.bool.injEq, AV.int.injEq, AV.t2.injEq, AV.t3.injEq, AV.own.injEq, List.cons.injEq, Prod.mk.injEq, Row.ints.injEq, RW, Row.nlen, scalar, imp_self, and_true, true_and, lexT, heldT, tailT, planT, nb, Int.toNat_zero, List.getD_cons_zero, List.getD_cons_succ, List.set_cons_zero, List.set_cons_succ, sx, sw, sv, sh, sb]
      rw [j3, List.drop_of_length_le hj2]
      rfl
end Go.Proofs.YtcbfpkdcgbkfaaaDoor
