/-
  Stocks: the counts of a rule, both sides; the lengths that can be made.
-/
import Derived.Test.YthnbajdkimgigaaR3
set_option linter.unusedSimpArgs false
set_option linter.unusedVariables false
namespace Go.Proofs.Ythnbajdkimgigaa
open Go.Ab

def hasS (l : List (List Int)) (n : Nat) : Bool := hasB (lsL l) (csL l) n
def rvL (l : List (List Int)) (n : Nat) : List Int := if hasS l n then bestL (lsL l) (csL l) n else []
theorem bigT_len (l : List (List Int)) (n : Nat) : (bigT l n).length = l.length + 1 := by simp [bigT]
theorem bigT_get (l : List (List Int)) (n i : Nat) (h : i ≤ l.length) : (bigT l n).getD i [] = (rowF (lsL l) (csL l) n i).map big := by
  rw [bigT, range_getD _ _ _ _ (by omega)]
theorem big_neg {v : Int} (h : v < 0) : big v = 1048576 := by simp [big, h]
theorem big_pos {v : Int} (h : 0 ≤ v) : big v = v := by unfold big; rw [if_neg (by omega)]

def F2 (S : Sp2) : List (Nat × (List AV → CR)) :=
  (37, fun args => match args with | [.ro (.recs 2 l), .int .i64 n] => .pure (S.os l n) (.own 0 true) [(34, .intss (S.bigT l n))] | _ => .no) ::
  F1 S
set_option maxRecDepth 100000 in
theorem F2_ok : TabOK Try.prog (tfind (F2 sp2)) := by
  refine tab_cons (fun args => ?_) (F1_ok)
  · split
    · exact ent_pure fun h => ruTables_ok _ _ h.1 h.2
    · exact ent_no

set_option maxHeartbeats 2000000 in
set_option maxRecDepth 100000 in
theorem ruRule_ok (l : List (List Int)) (n : Int) (hs : okS l) (hnb : 0 ≤ n ∧ n ≤ 400) : FC Try.prog 33 [.ro (.recs 2 l), .int .i64 n] (.t2 (.own 0 true) (.bool (hasS l n.toNat))) [(3, .ints .i64 (rvL l n.toNat))] := by
  refine fc_eval sp2 F2 F2_ok hT hm Try.func33 rfl (by kernel_rfl) rfl rfl ?_
  intro A S r0 fr0 hA hS hr hfr
  cbv
  have h := okS_dp hs hnb
  have hl := hs.1
  obtain ⟨N, hN⟩ : ∃ N, N = n.toNat := ⟨_, rfl⟩
  obtain ⟨ws, hws⟩ : ∃ ws, ws = lsL l := ⟨_, rfl⟩
  obtain ⟨st, hst⟩ : ∃ st, st = csL l := ⟨_, rfl⟩
  have hwl : ws.length = l.length := by rw [hws, lsL_len]
  have hfitK := rowF_fit (ws := lsL l) (st := csL l) (fun j hj => ((okS_dp hs hnb).w j hj).1) N l.length (by rw [lsL_len]; omega) N (by rw [rowF_len]; omega)
  refine obP.mk (by subst hA hS; exact ⟨hs, hnb⟩) (obP.mk (by (try simp only [nc] at *); subst hA hS; simp (disch := (refine KR.mk ?_; kernel_rfl)) only [alg, obP_iff, condP_iff, retP_iff, retM_iff, ofNat_cast, nc, Int.toNat_natCast, decide_eq_true_eq, decide_eq_false_iff_not, wrap_w64, retS_iff, Bool.not_eq_true', Bool.not_eq_false', beq_iff_eq, beq_eq_false_iff_ne, AV.bool.injEq, AV.int.injEq, AV.t2.injEq, AV.t3.injEq, AV.own.injEq, List.cons.injEq, Prod.mk.injEq, Row.ints.injEq, RW, Row.nlen, scalar, imp_self, and_true, true_and, lexT, heldT, tailT, planT, nb, Int.toNat_zero, List.getD_cons_zero, List.getD_cons_succ, List.set_cons_zero, List.set_cons_succ, sp2, sp, sb]; rw [bigT_len]; omega) (obP.mk (by (try simp only [nc] at *); subst hA hS; simp (disch := (refine KR.mk ?_; kernel_rfl)) only [alg, obP_iff, condP_iff, retP_iff, retM_iff, ofNat_cast, nc, Int.toNat_natCast, decide_eq_true_eq, decide_eq_false_iff_not, wrap_w64, retS_iff, Bool.not_eq_true', Bool.not_eq_false', beq_iff_eq, beq_eq_false_iff_ne, AV.bool.injEq, AV.int.injEq, AV.t2.injEq, AV.t3.injEq, AV.own.injEq, List.cons.injEq, Prod.mk.injEq, Row.ints.injEq, RW, Row.nlen, scalar, imp_self, and_true, true_and, lexT, heldT, tailT, planT, nb, Int.toNat_zero, List.getD_cons_zero, List.getD_cons_succ, List.set_cons_zero, List.set_cons_succ, sp2, sp, sb]; rw [bigT_get _ _ _ (by omega), List.length_map, rowF_len]; omega) (condP.mk (fun hc => ?_) (fun hc => ?_))))
  · have hb : hasS l n.toNat = false := by
      (try simp only [nc] at *); (try subst hA); (try subst hS); simp (disch := (refine KR.mk ?_; kernel_rfl)) only [alg, obP_iff, condP_iff, retP_iff, retM_iff, ofNat_cast, nc, Int.toNat_natCast, decide_eq_true_eq, decide_eq_false_iff_not, wrap_w64, retS_iff, Bool.not_eq_true', Bool.not_eq_false', beq_iff_eq, beq_eq_false_iff_ne, AV.bool.injEq, AV.int.injEq, AV.t2.injEq, AV.t3.injEq, AV.own.injEq, List.cons.injEq, Prod.mk.injEq, Row.ints.injEq, RW, Row.nlen, scalar, imp_self, and_true, true_and, lexT, heldT, tailT, planT, nb, Int.toNat_zero, List.getD_cons_zero, List.getD_cons_succ, List.set_cons_zero, List.set_cons_succ, sp2, sp, sb] at hc
      rw [bigT_get _ _ _ (by omega), map_big_get (by rw [rowF_len]; omega), ← hN] at hc
      rw [hasS, hasB, lsL_len, ← hN, decide_eq_false_iff_not]
      intro h0
      rw [big_pos h0] at hc
      omega
    (try simp only [nc] at *); subst hA hS hr hfr; simp (disch := (refine KR.mk ?_; kernel_rfl)) only [alg, obP_iff, condP_iff, retP_iff, retM_iff, ofNat_cast, nc, Int.toNat_natCast, decide_eq_true_eq, decide_eq_false_iff_not, wrap_w64, retS_iff, Bool.not_eq_true', Bool.not_eq_false', beq_iff_eq, beq_eq_false_iff_ne, AV.bool.injEq, AV.int.injEq, AV.t2.injEq, AV.t3.injEq, AV.own.injEq, List.cons.injEq, Prod.mk.injEq, Row.ints.injEq, RW, Row.nlen, scalar, imp_self, and_true, true_and, lexT, heldT, tailT, planT, nb, Int.toNat_zero, List.getD_cons_zero, List.getD_cons_succ, List.set_cons_zero, List.set_cons_succ, sp2, sp, sb]
    rw [rvL, hb]
    simp
  · have hb : hasS l N = true := by
      (try simp only [nc] at *); (try subst hA); (try subst hS); simp (disch := (refine KR.mk ?_; kernel_rfl)) only [alg, obP_iff, condP_iff, retP_iff, retM_iff, ofNat_cast, nc, Int.toNat_natCast, decide_eq_true_eq, decide_eq_false_iff_not, wrap_w64, retS_iff, Bool.not_eq_true', Bool.not_eq_false', beq_iff_eq, beq_eq_false_iff_ne, AV.bool.injEq, AV.int.injEq, AV.t2.injEq, AV.t3.injEq, AV.own.injEq, List.cons.injEq, Prod.mk.injEq, Row.ints.injEq, RW, Row.nlen, scalar, imp_self, and_true, true_and, lexT, heldT, tailT, planT, nb, Int.toNat_zero, List.getD_cons_zero, List.getD_cons_succ, List.set_cons_zero, List.set_cons_succ, sp2, sp, sb] at hc
      rw [bigT_get _ _ _ (by omega), map_big_get (by rw [rowF_len]; omega), ← hN] at hc
      rw [hasS, hasB, lsL_len, decide_eq_true_eq]
      rcases Int.lt_or_le ((rowF (lsL l) (csL l) N l.length).getD N 0) 0 with h0 | h0
      · rw [big_neg h0] at hc; omega
      · exact h0
    have hv : rvL l N = bestL ws st N := by rw [rvL, if_pos hb, hws, hst]
    have hb' : 0 ≤ (rowF ws st N l.length).getD N 0 := by
      have := hb
      rw [hasS, hasB, lsL_len, decide_eq_true_eq, ← hws, ← hst] at this
      exact this
    obtain ⟨tb, htb⟩ : ∃ tb, tb = S.bigT l n := ⟨_, rfl⟩
    have htb' : tb = bigT l N := by rw [htb, hS, hN]; rfl
    have htl : tb.length = l.length + 1 := by rw [htb', bigT_len]
    have htg : ∀ i, i ≤ l.length → tb.getD i [] = (rowF ws st N i).map big := fun i hi => by rw [htb', bigT_get _ _ _ hi, hws, hst]
    rw [← hws, ← hst] at h
    refine obP.mk (by (try simp only [nc] at *); subst hA hS; simp (disch := (refine KR.mk ?_; kernel_rfl)) only [alg, obP_iff, condP_iff, retP_iff, retM_iff, ofNat_cast, nc, Int.toNat_natCast, decide_eq_true_eq, decide_eq_false_iff_not, wrap_w64, retS_iff, Bool.not_eq_true', Bool.not_eq_false', beq_iff_eq, beq_eq_false_iff_ne, AV.bool.injEq, AV.int.injEq, AV.t2.injEq, AV.t3.injEq, AV.own.injEq, List.cons.injEq, Prod.mk.injEq, Row.ints.injEq, RW, Row.nlen, scalar, imp_self, and_true, true_and, lexT, heldT, tailT, planT, nb, Int.toNat_zero, List.getD_cons_zero, List.getD_cons_succ, List.set_cons_zero, List.set_cons_succ, sp2, sp, sb]; omega) (obP.mk (by (try simp only [nc] at *); subst hA hS; simp (disch := (refine KR.mk ?_; kernel_rfl)) only [alg, obP_iff, condP_iff, retP_iff, retM_iff, ofNat_cast, nc, Int.toNat_natCast, decide_eq_true_eq, decide_eq_false_iff_not, wrap_w64, retS_iff, Bool.not_eq_true', Bool.not_eq_false', beq_iff_eq, beq_eq_false_iff_ne, AV.bool.injEq, AV.int.injEq, AV.t2.injEq, AV.t3.injEq, AV.own.injEq, List.cons.injEq, Prod.mk.injEq, Row.ints.injEq, RW, Row.nlen, scalar, imp_self, and_true, true_and, lexT, heldT, tailT, planT, nb, Int.toNat_zero, List.getD_cons_zero, List.getD_cons_succ, List.set_cons_zero, List.set_cons_succ, sp2, sp, sb]) ?_)
    refine loop4 (fun (i : Nat) (c k : Int) (out : List Int) => ⟨fr 87 [(0, .ro (.recs 2 l)), (1, .int .i64 k), (6, .own 1 true), (7, .own 2 false), (8, .int .i64 c)], [.dead, .row 34 (.intss tb), .row 3 (.ints .i64 out)]⟩)
      (fun i c k out => i ≤ l.length ∧ c = (i : Int) - 1 ∧ (0 ≤ k ∧ k ≤ N) ∧ 0 ≤ (rowF ws st N i).getD k.toNat 0 ∧ ∃ suf, suf.length = l.length - i ∧ bestL ws st N = bs ws st N i k.toNat ++ suf ∧ out = List.replicate i 0 ++ suf)
      (fun i _ _ _ => i) l.length ((l.length : Int) - 1) n (List.replicate l.length 0) ?_ ?_ ?_
    · (try simp only [nc] at *); subst hA hS; simp (disch := (refine KR.mk ?_; kernel_rfl)) only [alg, obP_iff, condP_iff, retP_iff, retM_iff, ofNat_cast, nc, Int.toNat_natCast, decide_eq_true_eq, decide_eq_false_iff_not, wrap_w64, retS_iff, Bool.not_eq_true', Bool.not_eq_false', beq_iff_eq, beq_eq_false_iff_ne, AV.bool.injEq, AV.int.injEq, AV.t2.injEq, AV.t3.injEq, AV.own.injEq, List.cons.injEq, Prod.mk.injEq, Row.ints.injEq, RW, Row.nlen, scalar, imp_self, and_true, true_and, lexT, heldT, tailT, planT, nb, Int.toNat_zero, List.getD_cons_zero, List.getD_cons_succ, List.set_cons_zero, List.set_cons_succ, sp2, sp, sb]
      have w1 : w64 ((l.length : Int) - 1) = (l.length : Int) - 1 := w64_id (by omega)
      simp only [w1, Int.toNat_natCast]
      rw [htb', hN]
      simp [Wk_iff, fr, undefs, wkT, wkV, wkH, okid, Row.nlen, Row.rk, RK.rowk, getO]
    · refine ⟨by omega, rfl, by omega, ?_, [], by simp, ?_, by simp⟩
      · rw [← hN]; exact hb'
      · rw [← hN, bestL, hwl]; simp
    · rintro i c k0 out ⟨i1, hci, hk, hpos, suf, hsf, hbest, ho⟩
      obtain ⟨k, rfl⟩ := Int.eq_ofNat_of_zero_le hk.1
      rw [Int.toNat_natCast] at hpos hbest
      have hk : k ≤ N := by omega
      have HK := Hd.mk hk
      have hol : out.length = l.length := by rw [ho]; simp [hsf]; omega
      have HC := Hd.mk hci
      clear hci
      cbv
      have hci := HC.h
      (try simp only [nc] at hci)
      refine condP.mk (fun hc2 => ?_) (fun hc2 => ?_)
      · have h0 : 0 ≤ c := by
          (try simp only [nc] at *); (try subst hA); (try subst hS); simp (disch := (refine KR.mk ?_; kernel_rfl)) only [alg, obP_iff, condP_iff, retP_iff, retM_iff, ofNat_cast, nc, Int.toNat_natCast, decide_eq_true_eq, decide_eq_false_iff_not, wrap_w64, retS_iff, Bool.not_eq_true', Bool.not_eq_false', beq_iff_eq, beq_eq_false_iff_ne, AV.bool.injEq, AV.int.injEq, AV.t2.injEq, AV.t3.injEq, AV.own.injEq, List.cons.injEq, Prod.mk.injEq, Row.ints.injEq, RW, Row.nlen, scalar, imp_self, and_true, true_and, lexT, heldT, tailT, planT, nb, Int.toNat_zero, List.getD_cons_zero, List.getD_cons_succ, List.set_cons_zero, List.set_cons_succ, sb] at hc2
          exact hc2
        have hk := HK.h
        obtain ⟨j, rfl⟩ : ∃ j, i = j + 1 := ⟨i - 1, by omega⟩
        have hcj : c.toNat = j := by omega
        have hwb := h.w j (by omega)
        have hsb := h.s j (by omega)
        obtain ⟨w, hw⟩ : ∃ w, w = ws.getD j 0 := ⟨_, rfl⟩
        obtain ⟨q, hq⟩ : ∃ q, q = st.getD j 0 := ⟨_, rfl⟩
        obtain ⟨W, hW⟩ : ∃ W, W = w.toNat := ⟨_, rfl⟩
        obtain ⟨Q, hQ⟩ : ∃ Q, Q = q.toNat := ⟨_, rfl⟩
        rw [← hw] at hwb
        rw [← hq] at hsb
        have hwW : w = W := by omega
        have hqQ : q = Q := by omega
        have hfw : (l.getD j []).getD 0 0 = w := by rw [hw, hws, lsL_get l (by omega)]; rfl
        have hfq : (l.getD j []).getD 1 0 = q := by rw [hq, hst, csL_get l (by omega)]; rfl
        obtain ⟨g, hg⟩ : ∃ g, g = gd ws st N j k := ⟨_, rfl⟩
        have hpk : pk ws st N j k = dn g (mst W Q k) := by rw [pk, hg, ← hw, ← hq, ← hW, ← hQ]
        have hex : ∃ x, x ≤ mst W Q k ∧ g x = true := ⟨pk ws st N j k, by rw [hpk]; exact dn_le _ _, by rw [hg]; exact pk_gd hk hpos⟩
        have hfit : fitR (rowF ws st N j) := rowF_fit (fun x hx => (h.w x hx).1) N j (by omega)
        have hfit2 : fitR (rowF ws st N (j + 1)) := rowF_fit (fun x hx => (h.w x hx).1) N (j + 1) (by omega)
        have H1 := Hd.mk hwW
        have H2 := Hd.mk hqQ
        have H3 := Hd.mk hcj
        refine obP.mk ⟨by kernel_rfl⟩ (obP.mk (by (try simp only [nc] at *); subst hA hS; simp (disch := (refine KR.mk ?_; kernel_rfl)) only [alg, obP_iff, condP_iff, retP_iff, retM_iff, ofNat_cast, nc, Int.toNat_natCast, decide_eq_true_eq, decide_eq_false_iff_not, wrap_w64, retS_iff, Bool.not_eq_true', Bool.not_eq_false', beq_iff_eq, beq_eq_false_iff_ne, AV.bool.injEq, AV.int.injEq, AV.t2.injEq, AV.t3.injEq, AV.own.injEq, List.cons.injEq, Prod.mk.injEq, Row.ints.injEq, RW, Row.nlen, scalar, imp_self, and_true, true_and, lexT, heldT, tailT, planT, nb, Int.toNat_zero, List.getD_cons_zero, List.getD_cons_succ, List.set_cons_zero, List.set_cons_succ, sp2, sp, sb]; omega) (obP.mk (by (try simp only [nc] at *); subst hA hS; simp (disch := (refine KR.mk ?_; kernel_rfl)) only [alg, obP_iff, condP_iff, retP_iff, retM_iff, ofNat_cast, nc, Int.toNat_natCast, decide_eq_true_eq, decide_eq_false_iff_not, wrap_w64, retS_iff, Bool.not_eq_true', Bool.not_eq_false', beq_iff_eq, beq_eq_false_iff_ne, AV.bool.injEq, AV.int.injEq, AV.t2.injEq, AV.t3.injEq, AV.own.injEq, List.cons.injEq, Prod.mk.injEq, Row.ints.injEq, RW, Row.nlen, scalar, imp_self, and_true, true_and, lexT, heldT, tailT, planT, nb, Int.toNat_zero, List.getD_cons_zero, List.getD_cons_succ, List.set_cons_zero, List.set_cons_succ, sp2, sp, sb]; omega) (obP.mk (by (try simp only [nc] at *); subst hA hS; simp (disch := (refine KR.mk ?_; kernel_rfl)) only [alg, obP_iff, condP_iff, retP_iff, retM_iff, ofNat_cast, nc, Int.toNat_natCast, decide_eq_true_eq, decide_eq_false_iff_not, wrap_w64, retS_iff, Bool.not_eq_true', Bool.not_eq_false', beq_iff_eq, beq_eq_false_iff_ne, AV.bool.injEq, AV.int.injEq, AV.t2.injEq, AV.t3.injEq, AV.own.injEq, List.cons.injEq, Prod.mk.injEq, Row.ints.injEq, RW, Row.nlen, scalar, imp_self, and_true, true_and, lexT, heldT, tailT, planT, nb, Int.toNat_zero, List.getD_cons_zero, List.getD_cons_succ, List.set_cons_zero, List.set_cons_succ, sp2, sp, sb]; rw [hcj, hfw]; omega) (obP.mk trivial ?_))))
        refine loop1 (fun (m : Nat) => ⟨fr 87 [(0, .ro (.recs 2 l)), (1, .int .i64 k), (6, .own 1 true), (7, .own 2 false), (8, .int .i64 c), (9, .int .i64 m)], [.dead, .row 34 (.intss tb), .row 3 (.ints .i64 out)]⟩)
          (fun m => m ≤ mst W Q k ∧ pk ws st N j k = dn g m ∧ ∃ x, x ≤ m ∧ g x = true) (fun m => m) (mst W Q k) ?_ ?_ ?_
        · (try simp only [nc] at *); subst hA hS; simp (disch := (refine KR.mk ?_; kernel_rfl)) only [alg, obP_iff, condP_iff, retP_iff, retM_iff, ofNat_cast, nc, Int.toNat_natCast, decide_eq_true_eq, decide_eq_false_iff_not, wrap_w64, retS_iff, Bool.not_eq_true', Bool.not_eq_false', beq_iff_eq, beq_eq_false_iff_ne, AV.bool.injEq, AV.int.injEq, AV.t2.injEq, AV.t3.injEq, AV.own.injEq, List.cons.injEq, Prod.mk.injEq, Row.ints.injEq, RW, Row.nlen, scalar, imp_self, and_true, true_and, lexT, heldT, tailT, planT, nb, Int.toNat_zero, List.getD_cons_zero, List.getD_cons_succ, List.set_cons_zero, List.set_cons_succ, sp2, sp, sb]
          have := mn_mst q w W Q k hwW hqQ (by omega)
          simp only [hcj, hfw, hfq, minI, this]
          simp [Wk_iff, fr, undefs, wkT, wkV, wkH, okid, Row.nlen, Row.rk, RK.rowk, getO]
        · exact ⟨Nat.le_refl _, hpk, hex⟩
        · intro m hR
          have m1 := hR.1
          have m2 := hR.2.1
          have m3 := hR.2.2
          clear hR
          cbv
          (try simp only [nc] at *); subst hA hS hr hfr; simp (disch := (refine KR.mk ?_; kernel_rfl)) only [alg, obP_iff, condP_iff, retP_iff, retM_iff, ofNat_cast, nc, Int.toNat_natCast, decide_eq_true_eq, decide_eq_false_iff_not, wrap_w64, retS_iff, Bool.not_eq_true', Bool.not_eq_false', beq_iff_eq, beq_eq_false_iff_ne, AV.bool.injEq, AV.int.injEq, AV.t2.injEq, AV.t3.injEq, AV.own.injEq, List.cons.injEq, Prod.mk.injEq, Row.ints.injEq, RW, Row.nlen, scalar, imp_self, and_true, true_and, lexT, heldT, tailT, planT, nb, Int.toNat_zero, List.getD_cons_zero, List.getD_cons_succ, List.set_cons_zero, List.set_cons_succ, sp2, sp, sb]
          have hwW := H1.h
          have hqQ := H2.h
          have hcj := H3.h
          (try simp only [nc] at hwW hqQ)
          have hmk := (mst_le (show 0 < W by omega)).1 m1
          have hmW : (m : Int) * w = ((m * W : Nat) : Int) := by rw [hwW]; simp
          have w1 : w64 ((m : Int) * w) = ((m * W : Nat) : Int) := by rw [hmW, w64_id (by omega)]
          have w2 : w64 ((k : Int) - ((m * W : Nat) : Int)) = ((k - m * W : Nat) : Int) := by rw [w64_id (by omega)]; omega
          have w4 : w64 (c + 1) = ((j + 1 : Nat) : Int) := by rw [w64_id (by omega)]; omega
          have wc : w64 (c - 1) = c - 1 := w64_id (by omega)
          have t1 := htg j (by omega)
          have t2 := htg (j + 1) (by omega)
          have hr := hfit (k - m * W) (by rw [rowF_len]; omega)
          have hT := hfit2 k (by rw [rowF_len]; omega)
          have hjw : m ≤ m * W := Nat.le_mul_of_pos_right m (by omega)
          have hbb := big_bd ((rowF ws st N j).getD (k - m * W) 0)
          have w3 : w64 (big ((rowF ws st N j).getD (k - m * W) 0) + (m : Int)) = big ((rowF ws st N j).getD (k - m * W) 0) + m := w64_id (by omega)
          have b1 := map_big_get (p := rowF ws st N j) (k := k - m * W) (by rw [rowF_len]; omega)
          have b2 := map_big_get (p := rowF ws st N (j + 1)) (k := k) (by rw [rowF_len]; omega)
          simp only [hcj, hfw, w1, w2, w4, Int.toNat_natCast, t1, t2, List.length_map, rowF_len, b1, b2, w3, big_pos hpos]
          have hgm : (big ((rowF ws st N j).getD (k - m * W) 0) + (m : Int) = (rowF ws st N (j + 1)).getD k 0) ↔ g m = true := by
            rw [hg, gd, ← hw, ← hW]
            simp only [Bool.and_eq_true, decide_eq_true_eq]
            rcases Int.lt_or_le ((rowF ws st N j).getD (k - m * W) 0) 0 with hz | hz
            · rw [big_neg hz]; omega
            · rw [big_pos hz]; omega
          refine ⟨by omega, by omega, by omega, by omega, by omega, fun hf => ?_, fun ht => ?_⟩
          · have hf : g m = false := by
              cases hgb : g m with
              | false => rfl
              | true => exact absurd (hgm.2 hgb) hf
            obtain ⟨x, hx, hgx⟩ := m3
            have hxm : x ≠ m := by rintro rfl; rw [hgx] at hf; cases hf
            obtain ⟨m', rfl⟩ : ∃ m', m = m' + 1 := ⟨m - 1, by omega⟩
            have w5 : w64 (((m' + 1 : Nat) : Int) - 1) = (m' : Int) := by rw [w64_id (by omega)]; omega
            refine ⟨m', ?_, ⟨by omega, by rw [m2, dn_f hf], x, by omega, hgx⟩, by omega⟩
            simp only [w5]
            simp [Wk_iff, fr, undefs, wkT, wkV, wkH, okid, Row.nlen, Row.rk, RK.rowk, getO]
          · have ht : g m = true := hgm.1 ht
            have hpkm : pk ws st N j k = m := by rw [m2, dn_t ht]
            refine ⟨by omega, by omega, j, c - 1, ((k - m * W : Nat) : Int), out.set j (m : Int), ?_, ⟨by omega, by omega, by omega, ?_, (m : Int) :: suf, ?_, ?_, ?_⟩, by omega⟩
            · simp only [wc]
              simp [Wk_iff, fr, undefs, wkT, wkV, wkH, okid, Row.nlen, Row.rk, RK.rowk, getO]
            · have := lf_pos hk hpos
              rw [lf, hpkm, ← hw, ← hW] at this
              rw [Int.toNat_natCast]; exact this
            · simp; omega
            · rw [Int.toNat_natCast, hbest, bs, lf, hpkm, ← hw, ← hW]; simp
            · rw [ho, ← d_rep_snoc, List.append_assoc, List.singleton_append, d_app_set _ _ _ _ _ (by simp)]
      · have h0 : ¬ 0 ≤ c := by
          (try simp only [nc] at *); (try subst hA); (try subst hS); simp (disch := (refine KR.mk ?_; kernel_rfl)) only [alg, obP_iff, condP_iff, retP_iff, retM_iff, ofNat_cast, nc, Int.toNat_natCast, decide_eq_true_eq, decide_eq_false_iff_not, wrap_w64, retS_iff, Bool.not_eq_true', Bool.not_eq_false', beq_iff_eq, beq_eq_false_iff_ne, AV.bool.injEq, AV.int.injEq, AV.t2.injEq, AV.t3.injEq, AV.own.injEq, List.cons.injEq, Prod.mk.injEq, Row.ints.injEq, RW, Row.nlen, scalar, imp_self, and_true, true_and, lexT, heldT, tailT, planT, nb, Int.toNat_zero, List.getD_cons_zero, List.getD_cons_succ, List.set_cons_zero, List.set_cons_succ, sb] at hc2
          exact hc2
        have hi : i = 0 := by omega
        (try simp only [nc] at *); subst hA hS hr hfr; simp (disch := (refine KR.mk ?_; kernel_rfl)) only [alg, obP_iff, condP_iff, retP_iff, retM_iff, ofNat_cast, nc, Int.toNat_natCast, decide_eq_true_eq, decide_eq_false_iff_not, wrap_w64, retS_iff, Bool.not_eq_true', Bool.not_eq_false', beq_iff_eq, beq_eq_false_iff_ne, AV.bool.injEq, AV.int.injEq, AV.t2.injEq, AV.t3.injEq, AV.own.injEq, List.cons.injEq, Prod.mk.injEq, Row.ints.injEq, RW, Row.nlen, scalar, imp_self, and_true, true_and, lexT, heldT, tailT, planT, nb, Int.toNat_zero, List.getD_cons_zero, List.getD_cons_succ, List.set_cons_zero, List.set_cons_succ, sp2, sp, sb]
        rw [ho, ← hN, hv, hb, hbest, hi]
        simp [bs]
end Go.Proofs.Ythnbajdkimgigaa
