/-
  A stock's text read: the specification.
-/
import Derived.Test.YtdkpncnkhnmidaaDoorU1
import Derived.Test.YtdkpncnkhnmidaaDoorU4
set_option linter.unusedSimpArgs false
set_option linter.unusedVariables false
namespace Go.Proofs.YtdkpncnkhnmidaaDoor
open Go.Ab Go.RowKit

theorem take_one (s : List UInt8) {i : Nat} (hi : i < s.length) : (s.take (i + 1)) = s.take i ++ [s.getD i 0] := take_getD 0 s i hi
theorem spl1_ok (s : List UInt8) (b : UInt8) (hs : s.length ≤ 1048576) : FC Tryd.prog 9 [.str s, .int .u8 (b.toNat : Int)] (.own 0 true) [(9, .strs (spS b s))] := by
  refine fc_eval sp R2 R2_ok hT hm Tryd.func9 rfl (by kernel_rfl) rfl rfl ?_
  intro A S r0 fr0 hA hS hr hfr
  cbv
  obtain ⟨B, hB⟩ : ∃ B : Int, B = (b.toNat : Int) := ⟨_, rfl⟩
  refine loop3 (fun (i : Nat) (f : Nat) (o : List (List UInt8)) => ⟨fr 34 [(0, .str s), (1, .int .u8 B), (5, .own 1 true), (6, .int .i64 f), (7, .int .i64 i)], [.dead, .row 9 (.strs o)]⟩)
    (fun i f o => i ≤ s.length ∧ f ≤ i ∧ o.length ≤ i ∧ spS b (s.take i) = o ++ [(s.take i).drop f]) (fun i _ _ => s.length - i) 0 0 [] ?_ ?_ ?_
  · subst hA hS; simp [Wk_iff, fr, undefs, wkT, wkV, wkH, okid, Row.nlen, Row.rk, RK.rowk, getO, alg, hB]
  · exact ⟨by omega, by omega, by simp, rfl⟩
  · intro i f o hR
    have i1 := hR.1
    have i2 := hR.2.1
    have i3 := hR.2.2.1
    have HP := Hd.mk hR.2.2.2
    clear hR
    cbv
    (try simp only [nc] at *); subst hA hS hr hfr; simp (disch := (refine KR.mk ?_; kernel_rfl)) only [alg, obP_iff, condP_iff, retP_iff, retM_iff, ofNat_cast, nc, Int.toNat_natCast, decide_eq_true_eq, decide_eq_false_iff_not, wrap_w64, retS_iff, Bool.not_eq_true', Bool.not_eq_false', beq_iff_eq, beq_eq_false_iff_ne, AV.bool.injEq, AV.int.injEq, AV.t2.injEq, AV.t3.injEq, AV.own.injEq, List.cons.injEq, Prod.mk.injEq, Row.ints.injEq, RW, Row.nlen, scalar, imp_self, and_true, true_and, lexT, heldT, tailT, planT, nb, Int.toNat_zero, List.getD_cons_zero, List.getD_cons_succ, List.set_cons_zero, List.set_cons_succ, sp, sb]
    have w1 : w64 ((i : Int) + 1) = ((i + 1 : Nat) : Int) := by rw [w64_id (by omega)]; omega
    simp only [w1]
    refine ⟨fun hi => ?_, fun hi => ?_⟩
    · have hil : i < s.length := by omega
      obtain ⟨xs, x, h1, h2⟩ := spS_snoc b (s.take i) (s.getD i 0)
      rw [HP.h] at h1
      have e1 := List.append_inj_left' h1 rfl
      have e2 : x = (s.take i).drop f := by have := List.append_inj_right' h1 rfl; simpa using this.symm
      rw [← take_one s hil] at h2
      refine ⟨by omega, fun hb => ?_, fun hb => ?_⟩
      · have hcb : s.getD i 0 = b := UInt8.toNat_inj.1 (by omega)
        rw [if_pos hcb, ← e1, e2] at h2
        refine ⟨by omega, by omega, by omega, by simp, i + 1, i + 1, o ++ [(s.take i).drop f], ?_, ⟨by omega, by omega, by simp; omega, ?_⟩, by omega⟩
        · simp [Wk_iff, fr, undefs, wkT, wkV, wkH, okid, Row.nlen, Row.rk, RK.rowk, getO]
        · have e0 : (s.take (i + 1)).drop (i + 1) = [] := List.drop_of_length_le (by rw [List.length_take]; omega)
          rw [h2, e0]
      · have hcb : ¬ s.getD i 0 = b := fun e => hb (by rw [hB, e])
        rw [if_neg hcb, ← e1, e2] at h2
        refine ⟨i + 1, f, o, ?_, ⟨by omega, by omega, by omega, ?_⟩, by omega⟩
        · simp [Wk_iff, fr, undefs, wkT, wkV, wkH, okid, Row.nlen, Row.rk, RK.rowk, getO]
        · rw [h2, take_one s hil, List.drop_append_of_le_length (by rw [List.length_take]; omega)]
    · have hil : i = s.length := by omega
      subst hil
      have hp := HP.h
      rw [List.take_length] at hp
      refine ⟨by omega, by omega, by omega, by simp, ?_⟩
      rw [List.take_length, hp]
def hbd : Nat → Int
  | 0 => 0
  | n + 1 => 10 * hbd n + 9
theorem hbd_le {i : Nat} (h : i ≤ 6) : hbd i ≤ 999999 := by
  have : ∀ j, j ≤ 6 → hbd j ≤ 999999 := by decide
  exact this i h
theorem rd_ok (a : List UInt8) (ha : a.length ≤ 1048576) : FC Tryd.prog 10 [.str a] (.int .i64 (rd a)) [] := by
  refine fc_eval sp R2 R2_ok hT hm Tryd.func10 rfl (by kernel_rfl) rfl rfl ?_
  intro A S r0 fr0 hA hS hr hfr
  cbv
  have e1 : S.inR (A.len a) 1 6 = inR (a.length : Int) 1 6 := by subst hA hS; rfl
  have e2 : A.eq (A.byte a (A.tn 0)) 48 = (((a.getD 0 0).toNat : Int) == 48) := by subst hA; rfl
  have e3 : A.lt 1 (A.len a) = decide (1 < (a.length : Int)) := by subst hA; rfl
  refine obP.mk trivial ?_
  refine obP.mk ?_ (obP.mk ?_ (obP.mk ?_ (obP.mk ?_ (obP.mk ?_ (obP.mk ?_ (obP.mk ?_ (obP.mk ?_ (obP.mk ?_ (condP.mk (fun hb => ?_) (fun hb => ?_))))))))))
  any_goals (subst hA hS; simp [alg, sp, sb]; done)
  · subst hA hS
    (try simp only [nc] at *)
    simp (disch := (refine KR.mk ?_; kernel_rfl)) only [alg, obP_iff, condP_iff, retP_iff, retM_iff, ofNat_cast, nc, Int.toNat_natCast, decide_eq_true_eq, decide_eq_false_iff_not, wrap_w64, retS_iff, Bool.not_eq_true', Bool.not_eq_false', beq_iff_eq, beq_eq_false_iff_ne, AV.bool.injEq, AV.int.injEq, AV.t2.injEq, AV.t3.injEq, AV.own.injEq, List.cons.injEq, Prod.mk.injEq, Row.ints.injEq, RW, Row.nlen, scalar, imp_self, and_true, true_and, lexT, heldT, tailT, planT, nb, Int.toNat_zero, List.getD_cons_zero, List.getD_cons_succ, List.set_cons_zero, List.set_cons_succ, sp, sb]
    intro h
    have := inR_iff.1 h
    omega
  · subst hA hS
    have hb2 : badR a = true := by
      (try simp only [nc] at *); simp (disch := (refine KR.mk ?_; kernel_rfl)) only [alg, obP_iff, condP_iff, retP_iff, retM_iff, ofNat_cast, nc, Int.toNat_natCast, decide_eq_true_eq, decide_eq_false_iff_not, wrap_w64, retS_iff, Bool.not_eq_true', Bool.not_eq_false', beq_iff_eq, beq_eq_false_iff_ne, AV.bool.injEq, AV.int.injEq, AV.t2.injEq, AV.t3.injEq, AV.own.injEq, List.cons.injEq, Prod.mk.injEq, Row.ints.injEq, RW, Row.nlen, scalar, imp_self, and_true, true_and, lexT, heldT, tailT, planT, nb, Int.toNat_zero, List.getD_cons_zero, List.getD_cons_succ, List.set_cons_zero, List.set_cons_succ, sp, sb] at hb; exact hb
    rw [hr, hfr, rd, hb2]
    simp only [retP_iff, if_true]
    exact ⟨rfl, rfl⟩
  have hb2 : badR a = false := by
    subst hA hS
    (try simp only [nc] at *); simp (disch := (refine KR.mk ?_; kernel_rfl)) only [alg, obP_iff, condP_iff, retP_iff, retM_iff, ofNat_cast, nc, Int.toNat_natCast, decide_eq_true_eq, decide_eq_false_iff_not, wrap_w64, retS_iff, Bool.not_eq_true', Bool.not_eq_false', beq_iff_eq, beq_eq_false_iff_ne, AV.bool.injEq, AV.int.injEq, AV.t2.injEq, AV.t3.injEq, AV.own.injEq, List.cons.injEq, Prod.mk.injEq, Row.ints.injEq, RW, Row.nlen, scalar, imp_self, and_true, true_and, lexT, heldT, tailT, planT, nb, Int.toNat_zero, List.getD_cons_zero, List.getD_cons_succ, List.set_cons_zero, List.set_cons_succ, sp, sb] at hb; exact hb
  clear hb
  have hlen : a.length ≤ 6 ∧ rd a = if a.all digB then horn a 0 else -1 := by
    refine ⟨?_, by rw [rd, hb2]; simp⟩
    simp only [badR, Bool.or_eq_false_iff, Bool.not_eq_false', inR_iff] at hb2
    omega
  rw [hlen.2] at hr
  refine loop2 (fun (i : Nat) (n : Int) => ⟨fr 44 [(0, .str a), (3, .int .i64 n), (4, .int .i64 i)], [.dead]⟩)
    (fun i n => i ≤ a.length ∧ n = horn (a.take i) 0 ∧ (a.take i).all digB = true ∧ 0 ≤ n ∧ n ≤ hbd i) (fun i _ => a.length - i) 0 0 ?_ ?_ ?_
  · subst hA hS; simp [Wk_iff, fr, undefs, wkT, wkV, wkH, okid, Row.nlen, Row.rk, RK.rowk, getO, alg]
  · exact ⟨by omega, rfl, rfl, by omega, by simp [hbd]⟩
  · intro i n hR
    have i1 := hR.1
    have i2 := hR.2.2.2
    have HP := Hd.mk hR.2
    have hbi := hbd_le (i := i) (by omega)
    clear hR
    cbv
    (try simp only [nc] at *); subst hA hS hr hfr; simp (disch := (refine KR.mk ?_; kernel_rfl)) only [alg, obP_iff, condP_iff, retP_iff, retM_iff, ofNat_cast, nc, Int.toNat_natCast, decide_eq_true_eq, decide_eq_false_iff_not, wrap_w64, retS_iff, Bool.not_eq_true', Bool.not_eq_false', beq_iff_eq, beq_eq_false_iff_ne, AV.bool.injEq, AV.int.injEq, AV.t2.injEq, AV.t3.injEq, AV.own.injEq, List.cons.injEq, Prod.mk.injEq, Row.ints.injEq, RW, Row.nlen, scalar, imp_self, and_true, true_and, lexT, heldT, tailT, planT, nb, Int.toNat_zero, List.getD_cons_zero, List.getD_cons_succ, List.set_cons_zero, List.set_cons_succ, sp, sb]
    refine ⟨fun hi => ?_, fun hi => ?_⟩
    · have hil : i < a.length := by omega
      obtain ⟨q1, q2, q3, q4⟩ := HP.h
      have ht := take_getD 0 a i hil
      have hmem : a.getD i 0 ∈ a := by
        rw [List.getD_eq_getElem?_getD, List.getElem?_eq_getElem hil]; simp
      refine ⟨by omega, fun _ => by omega, fun hd => ?_, fun hd => ?_⟩
      · rw [if_neg]
        intro hall
        have := digB_iff.1 (List.all_eq_true.1 hall _ hmem)
        simp only [Bool.or_eq_true, decide_eq_true_eq] at hd
        omega
      · simp only [Bool.or_eq_false_iff, decide_eq_false_iff_not] at hd
        have w1 : w64 ((i : Int) + 1) = ((i + 1 : Nat) : Int) := by rw [w64_id (by omega)]; omega
        refine ⟨by omega, i + 1, 10 * n + (((a.getD i 0).toNat : Int) - 48), ?_, ⟨by omega, ?_, ?_, by omega, ?_⟩, by omega⟩
        · generalize hx : a.getD i 0 = x at hd
          have hx2 : a[i]?.getD 0 = x := by rw [← hx, List.getD_eq_getElem?_getD]
          have e8 : IntKind.u8.wrap ((x.toNat : Int) - 48) = (x.toNat : Int) - 48 := by
            simp [IntKind.wrap, IntKind.bits, IntKind.signed]; omega
          simp [Wk_iff, fr, undefs, wkT, wkV, wkH, okid, Row.nlen, Row.rk, RK.rowk, getO, hx2, e8]
          have e9 : w64 ((x.toNat : Int) - 48) = (x.toNat : Int) - 48 := w64_id (by omega)
          have e10 : w64 (10 * n) = 10 * n := w64_id (by omega)
          have e11 : w64 ((i : Int) + 1) = (i : Int) + 1 := w64_id (by omega)
          rw [e9, e10, e11]
          exact ⟨w64_id (by omega), rfl⟩
        · rw [ht, horn_snoc, q1]
        · rw [ht, List.all_append, q2]
          simp only [List.all_cons, List.all_nil, Bool.and_true, Bool.true_and]
          rw [digB_iff]; omega
        · simp only [hbd]; omega
    · have hil : i = a.length := by omega
      subst hil
      obtain ⟨q1, q2, q3, q4⟩ := HP.h
      rw [List.take_length] at q1 q2
      rw [q1, q2, if_pos rfl]
end Go.Proofs.YtdkpncnkhnmidaaDoor
