/-
  The best counts: the program's function finds them.
-/
import Derived.Test.YthnbajdkimgigaaD1
set_option linter.unusedSimpArgs false
set_option linter.unusedVariables false
namespace Go.Proofs.Ythnbajdkimgigaa
open Go.Ab

structure Sd extends Sb where
  tabF : List Int → List Int → Int → List (List Int)
  dp : List Int → List Int → Int → Prop
def sd : Sd := { sb with tabF := fun ws st n => tabF ws st n.toNat, dp := dpP }
def E1 (S : Sd) : List (Nat × (List AV → CR)) :=
  (39, fun args => match args with | [.ro (.ints .i64 ws), .ro (.ints .i64 st), .int .i64 n] => .pure (S.dp ws st n) (.own 0 true) [(34, .intss (S.tabF ws st n))] | _ => .no) ::
  B2 S.toSb
set_option maxRecDepth 100000 in
theorem E1_ok : TabOK Try.prog (tfind (E1 sd)) := by
  refine tab_cons (fun args => ?_) (B2_ok)
  · split
    · exact ent_pure fun h => fewest_ok _ _ _ h
    · exact ent_no

theorem tabF_len (ws st : List Int) (n : Nat) : (tabF ws st n).length = ws.length + 1 := by simp [tabF]
theorem tabF_get (ws st : List Int) (n i : Nat) (h : i ≤ ws.length) : (tabF ws st n).getD i [] = rowF ws st n i := by
  rw [tabF, range_getD _ _ _ _ (by omega)]
theorem mn_mst (q w : Int) (W Q k : Nat) (hw : w = W) (hq : q = Q) (hk : k ≤ 400) : (if w64 ((k : Int).tdiv w) < q then w64 ((k : Int).tdiv w) else q) = ((mst W Q k : Nat) : Int) := by
  have e : (k : Int).tdiv w = ((k / W : Nat) : Int) := by rw [hw]; exact (Int.ofNat_tdiv k W).symm
  have hd : k / W ≤ k := Nat.div_le_self _ _
  unfold mst
  obtain ⟨d, hd'⟩ : ∃ d, d = k / W := ⟨_, rfl⟩
  rw [← hd'] at e hd ⊢
  rw [e, w64_id (by omega), hq]
  split <;> omega

theorem bestOf_none (ws st : List Int) (n : Int) (h : dpP ws st n) (hb : hasB ws st n.toNat = false) : FC Try.prog 36 [.ro (.ints .i64 ws), .ro (.ints .i64 st), .int .i64 n] .nilS [] := by
  refine fc_eval sd E1 E1_ok hT hm Try.func36 rfl (by kernel_rfl) rfl rfl ?_
  intro A S r0 fr0 hA hS hr hfr
  cbv
  have hl := h.l
  have hnb := h.n
  refine obP.mk (by subst hA hS; exact h) (obP.mk (by (try simp only [nc] at *); subst hA hS; simp (disch := (refine KR.mk ?_; kernel_rfl)) only [alg, obP_iff, condP_iff, retP_iff, retM_iff, ofNat_cast, nc, Int.toNat_natCast, decide_eq_true_eq, decide_eq_false_iff_not, wrap_w64, retS_iff, Bool.not_eq_true', Bool.not_eq_false', beq_iff_eq, beq_eq_false_iff_ne, AV.bool.injEq, AV.int.injEq, AV.t2.injEq, AV.t3.injEq, AV.own.injEq, List.cons.injEq, Prod.mk.injEq, Row.ints.injEq, RW, Row.nlen, scalar, imp_self, and_true, true_and, lexT, heldT, tailT, planT, nb, Int.toNat_zero, List.getD_cons_zero, List.getD_cons_succ, List.set_cons_zero, List.set_cons_succ, sd, sb]; rw [tabF_len]; omega) (obP.mk (by (try simp only [nc] at *); subst hA hS; simp (disch := (refine KR.mk ?_; kernel_rfl)) only [alg, obP_iff, condP_iff, retP_iff, retM_iff, ofNat_cast, nc, Int.toNat_natCast, decide_eq_true_eq, decide_eq_false_iff_not, wrap_w64, retS_iff, Bool.not_eq_true', Bool.not_eq_false', beq_iff_eq, beq_eq_false_iff_ne, AV.bool.injEq, AV.int.injEq, AV.t2.injEq, AV.t3.injEq, AV.own.injEq, List.cons.injEq, Prod.mk.injEq, Row.ints.injEq, RW, Row.nlen, scalar, imp_self, and_true, true_and, lexT, heldT, tailT, planT, nb, Int.toNat_zero, List.getD_cons_zero, List.getD_cons_succ, List.set_cons_zero, List.set_cons_succ, sd, sb]; rw [tabF_get _ _ _ _ (by omega), rowF_len]; omega) (condP.mk (fun hc => ?_) (fun hc => ?_))))
  · (try simp only [nc] at *); subst hA hS hr hfr; simp (disch := (refine KR.mk ?_; kernel_rfl)) only [alg, obP_iff, condP_iff, retP_iff, retM_iff, ofNat_cast, nc, Int.toNat_natCast, decide_eq_true_eq, decide_eq_false_iff_not, wrap_w64, retS_iff, Bool.not_eq_true', Bool.not_eq_false', beq_iff_eq, beq_eq_false_iff_ne, AV.bool.injEq, AV.int.injEq, AV.t2.injEq, AV.t3.injEq, AV.own.injEq, List.cons.injEq, Prod.mk.injEq, Row.ints.injEq, RW, Row.nlen, scalar, imp_self, and_true, true_and, lexT, heldT, tailT, planT, nb, Int.toNat_zero, List.getD_cons_zero, List.getD_cons_succ, List.set_cons_zero, List.set_cons_succ, sd, sb]
    try trivial
  · exfalso
    (try simp only [nc] at *); (try subst hA); (try subst hS); simp (disch := (refine KR.mk ?_; kernel_rfl)) only [alg, obP_iff, condP_iff, retP_iff, retM_iff, ofNat_cast, nc, Int.toNat_natCast, decide_eq_true_eq, decide_eq_false_iff_not, wrap_w64, retS_iff, Bool.not_eq_true', Bool.not_eq_false', beq_iff_eq, beq_eq_false_iff_ne, AV.bool.injEq, AV.int.injEq, AV.t2.injEq, AV.t3.injEq, AV.own.injEq, List.cons.injEq, Prod.mk.injEq, Row.ints.injEq, RW, Row.nlen, scalar, imp_self, and_true, true_and, lexT, heldT, tailT, planT, nb, Int.toNat_zero, List.getD_cons_zero, List.getD_cons_succ, List.set_cons_zero, List.set_cons_succ, sd, sb] at hc
    rw [tabF_get _ _ _ _ (by omega)] at hc
    simp only [hasB, decide_eq_false_iff_not] at hb
    have e : (ws.length : Int).toNat = ws.length := by omega
    first | (rw [e] at hc; omega) | omega
set_option maxHeartbeats 2000000 in
set_option maxRecDepth 100000 in
theorem bestOf_some (ws st : List Int) (n : Int) (h : dpP ws st n) (hb : hasB ws st n.toNat = true) : FC Try.prog 36 [.ro (.ints .i64 ws), .ro (.ints .i64 st), .int .i64 n] (.own 0 false) [(3, .ints .i64 (bestL ws st n.toNat))] := by
  refine fc_eval sd E1 E1_ok hT hm Try.func36 rfl (by kernel_rfl) rfl rfl ?_
  intro A S r0 fr0 hA hS hr hfr
  cbv
  have hl := h.l
  have hnb := h.n
  have hsl := h.sl
  obtain ⟨tb, htb⟩ : ∃ tb, tb = S.tabF ws st n := ⟨_, rfl⟩
  obtain ⟨N, hN⟩ : ∃ N, N = n.toNat := ⟨_, rfl⟩
  have htb' : tb = tabF ws st N := by rw [htb, hS, hN]; rfl
  have htl : tb.length = ws.length + 1 := by rw [htb', tabF_len]
  have htg : ∀ i, i ≤ ws.length → tb.getD i [] = rowF ws st N i := fun i hi => by rw [htb', tabF_get _ _ _ _ hi]
  rw [← hN] at hb
  have hb' : 0 ≤ (rowF ws st N ws.length).getD N 0 := of_decide_eq_true hb
  refine obP.mk (by subst hA hS; exact h) ?_
  refine obP.mk (by (try simp only [nc] at *); subst hA hS; simp (disch := (refine KR.mk ?_; kernel_rfl)) only [alg, obP_iff, condP_iff, retP_iff, retM_iff, ofNat_cast, nc, Int.toNat_natCast, decide_eq_true_eq, decide_eq_false_iff_not, wrap_w64, retS_iff, Bool.not_eq_true', Bool.not_eq_false', beq_iff_eq, beq_eq_false_iff_ne, AV.bool.injEq, AV.int.injEq, AV.t2.injEq, AV.t3.injEq, AV.own.injEq, List.cons.injEq, Prod.mk.injEq, Row.ints.injEq, RW, Row.nlen, scalar, imp_self, and_true, true_and, lexT, heldT, tailT, planT, nb, Int.toNat_zero, List.getD_cons_zero, List.getD_cons_succ, List.set_cons_zero, List.set_cons_succ, sd, sb]; rw [tabF_len]; omega) (obP.mk (by (try simp only [nc] at *); subst hA hS; simp (disch := (refine KR.mk ?_; kernel_rfl)) only [alg, obP_iff, condP_iff, retP_iff, retM_iff, ofNat_cast, nc, Int.toNat_natCast, decide_eq_true_eq, decide_eq_false_iff_not, wrap_w64, retS_iff, Bool.not_eq_true', Bool.not_eq_false', beq_iff_eq, beq_eq_false_iff_ne, AV.bool.injEq, AV.int.injEq, AV.t2.injEq, AV.t3.injEq, AV.own.injEq, List.cons.injEq, Prod.mk.injEq, Row.ints.injEq, RW, Row.nlen, scalar, imp_self, and_true, true_and, lexT, heldT, tailT, planT, nb, Int.toNat_zero, List.getD_cons_zero, List.getD_cons_succ, List.set_cons_zero, List.set_cons_succ, sd, sb]; rw [tabF_get _ _ _ _ (by omega), rowF_len]; omega) (condP.mk (fun hc => ?_) (fun hc => ?_)))
  · exfalso
    (try simp only [nc] at *); (try subst hA); (try subst hS); simp (disch := (refine KR.mk ?_; kernel_rfl)) only [alg, obP_iff, condP_iff, retP_iff, retM_iff, ofNat_cast, nc, Int.toNat_natCast, decide_eq_true_eq, decide_eq_false_iff_not, wrap_w64, retS_iff, Bool.not_eq_true', Bool.not_eq_false', beq_iff_eq, beq_eq_false_iff_ne, AV.bool.injEq, AV.int.injEq, AV.t2.injEq, AV.t3.injEq, AV.own.injEq, List.cons.injEq, Prod.mk.injEq, Row.ints.injEq, RW, Row.nlen, scalar, imp_self, and_true, true_and, lexT, heldT, tailT, planT, nb, Int.toNat_zero, List.getD_cons_zero, List.getD_cons_succ, List.set_cons_zero, List.set_cons_succ, sd, sb] at hc
    rw [tabF_get _ _ _ _ (by omega), ← hN] at hc
    omega
  · refine obP.mk (by (try simp only [nc] at *); subst hA hS; simp (disch := (refine KR.mk ?_; kernel_rfl)) only [alg, obP_iff, condP_iff, retP_iff, retM_iff, ofNat_cast, nc, Int.toNat_natCast, decide_eq_true_eq, decide_eq_false_iff_not, wrap_w64, retS_iff, Bool.not_eq_true', Bool.not_eq_false', beq_iff_eq, beq_eq_false_iff_ne, AV.bool.injEq, AV.int.injEq, AV.t2.injEq, AV.t3.injEq, AV.own.injEq, List.cons.injEq, Prod.mk.injEq, Row.ints.injEq, RW, Row.nlen, scalar, imp_self, and_true, true_and, lexT, heldT, tailT, planT, nb, Int.toNat_zero, List.getD_cons_zero, List.getD_cons_succ, List.set_cons_zero, List.set_cons_succ, sd, sb]; omega) (obP.mk (by (try simp only [nc] at *); subst hA hS; simp (disch := (refine KR.mk ?_; kernel_rfl)) only [alg, obP_iff, condP_iff, retP_iff, retM_iff, ofNat_cast, nc, Int.toNat_natCast, decide_eq_true_eq, decide_eq_false_iff_not, wrap_w64, retS_iff, Bool.not_eq_true', Bool.not_eq_false', beq_iff_eq, beq_eq_false_iff_ne, AV.bool.injEq, AV.int.injEq, AV.t2.injEq, AV.t3.injEq, AV.own.injEq, List.cons.injEq, Prod.mk.injEq, Row.ints.injEq, RW, Row.nlen, scalar, imp_self, and_true, true_and, lexT, heldT, tailT, planT, nb, Int.toNat_zero, List.getD_cons_zero, List.getD_cons_succ, List.set_cons_zero, List.set_cons_succ, sd, sb]) ?_)
    refine loop4 (fun (i : Nat) (c k : Int) (out : List Int) => ⟨fr 93 [(0, .ro (.ints .i64 ws)), (1, .ro (.ints .i64 st)), (2, .int .i64 k), (7, .own 1 true), (8, .own 2 false), (9, .int .i64 c)], [.dead, .row 34 (.intss tb), .row 3 (.ints .i64 out)]⟩)
      (fun i c k out => i ≤ ws.length ∧ c = (i : Int) - 1 ∧ (0 ≤ k ∧ k ≤ N) ∧ 0 ≤ (rowF ws st N i).getD k.toNat 0 ∧ ∃ suf, suf.length = ws.length - i ∧ bestL ws st N = bs ws st N i k.toNat ++ suf ∧ out = List.replicate i 0 ++ suf)
      (fun i _ _ _ => i) ws.length ((ws.length : Int) - 1) n (List.replicate ws.length 0) ?_ ?_ ?_
    · (try simp only [nc] at *); subst hA hS; simp (disch := (refine KR.mk ?_; kernel_rfl)) only [alg, obP_iff, condP_iff, retP_iff, retM_iff, ofNat_cast, nc, Int.toNat_natCast, decide_eq_true_eq, decide_eq_false_iff_not, wrap_w64, retS_iff, Bool.not_eq_true', Bool.not_eq_false', beq_iff_eq, beq_eq_false_iff_ne, AV.bool.injEq, AV.int.injEq, AV.t2.injEq, AV.t3.injEq, AV.own.injEq, List.cons.injEq, Prod.mk.injEq, Row.ints.injEq, RW, Row.nlen, scalar, imp_self, and_true, true_and, lexT, heldT, tailT, planT, nb, Int.toNat_zero, List.getD_cons_zero, List.getD_cons_succ, List.set_cons_zero, List.set_cons_succ, sd, sb]
      have w1 : w64 ((ws.length : Int) - 1) = (ws.length : Int) - 1 := w64_id (by omega)
      simp only [w1, Int.toNat_natCast]
      rw [htb', hN]
      simp [Wk_iff, fr, undefs, wkT, wkV, wkH, okid, Row.nlen, Row.rk, RK.rowk, getO]
    · refine ⟨by omega, rfl, by omega, ?_, [], by simp, ?_, by simp⟩
      · rw [← hN]; exact hb'
      · rw [← hN]; simp [bestL]
    · rintro i c k0 out ⟨i1, hci, hk, hpos, suf, hsf, hbest, ho⟩
      obtain ⟨k, rfl⟩ := Int.eq_ofNat_of_zero_le hk.1
      rw [Int.toNat_natCast] at hpos hbest
      have hk : k ≤ N := by omega
      have HK := Hd.mk hk
      have hol : out.length = ws.length := by rw [ho]; simp [hsf]; omega
      have HC := Hd.mk hci
      clear hci
      cbv
      have hci := HC.h
      (try simp only [nc] at hci)
      refine condP.mk (fun hc2 => ?_) (fun hc2 => ?_)
      · have h0 : 0 ≤ c := by
          (try simp only [nc] at *); (try subst hA); (try subst hS); simp (disch := (refine KR.mk ?_; kernel_rfl)) only [alg, obP_iff, condP_iff, retP_iff, retM_iff, ofNat_cast, nc, Int.toNat_natCast, decide_eq_true_eq, decide_eq_false_iff_not, wrap_w64, retS_iff, Bool.not_eq_true', Bool.not_eq_false', beq_iff_eq, beq_eq_false_iff_ne, AV.bool.injEq, AV.int.injEq, AV.t2.injEq, AV.t3.injEq, AV.own.injEq, List.cons.injEq, Prod.mk.injEq, Row.ints.injEq, RW, Row.nlen, scalar, imp_self, and_true, true_and, lexT, heldT, tailT, planT, nb, Int.toNat_zero, List.getD_cons_zero, List.getD_cons_succ, List.set_cons_zero, List.set_cons_succ, sd, sb] at hc2
          exact hc2
        have hk := HK.h
        obtain ⟨j, rfl⟩ : ∃ j, i = j + 1 := ⟨i - 1, by omega⟩
        have hcj : c.toNat = j := by omega
        have hwb := h.w j (by omega)
        have hsb := h.s j (by omega)
        obtain ⟨w, hw⟩ : ∃ w, w = ws.getD j 0 := ⟨_, rfl⟩
        obtain ⟨q, hq⟩ : ∃ q, q = st.getD j 0 := ⟨_, rfl⟩
        obtain ⟨W, hW⟩ : ∃ W, W = w.toNat := ⟨_, rfl⟩
        obtain ⟨Q, hQ⟩ : ∃ Q, Q = q.toNat := ⟨_, rfl⟩
        rw [← hw] at hwb
        rw [← hq] at hsb
        have hwW : w = W := by omega
        have hqQ : q = Q := by omega
        obtain ⟨g, hg⟩ : ∃ g, g = gd ws st N j k := ⟨_, rfl⟩
        have hpk : pk ws st N j k = dn g (mst W Q k) := by rw [pk, hg, ← hw, ← hq, ← hW, ← hQ]
        have hex : ∃ x, x ≤ mst W Q k ∧ g x = true := ⟨pk ws st N j k, by rw [hpk]; exact dn_le _ _, by rw [hg]; exact pk_gd hk hpos⟩
        have hfit : fitR (rowF ws st N j) := rowF_fit (fun x hx => (h.w x hx).1) N j (by omega)
        have H1 := Hd.mk hwW
        have H2 := Hd.mk hqQ
        have H3 := Hd.mk hcj
        refine obP.mk ⟨by kernel_rfl⟩ (obP.mk (by (try simp only [nc] at *); subst hA hS; simp (disch := (refine KR.mk ?_; kernel_rfl)) only [alg, obP_iff, condP_iff, retP_iff, retM_iff, ofNat_cast, nc, Int.toNat_natCast, decide_eq_true_eq, decide_eq_false_iff_not, wrap_w64, retS_iff, Bool.not_eq_true', Bool.not_eq_false', beq_iff_eq, beq_eq_false_iff_ne, AV.bool.injEq, AV.int.injEq, AV.t2.injEq, AV.t3.injEq, AV.own.injEq, List.cons.injEq, Prod.mk.injEq, Row.ints.injEq, RW, Row.nlen, scalar, imp_self, and_true, true_and, lexT, heldT, tailT, planT, nb, Int.toNat_zero, List.getD_cons_zero, List.getD_cons_succ, List.set_cons_zero, List.set_cons_succ, sd, sb]; omega) (obP.mk (by (try simp only [nc] at *); subst hA hS; simp (disch := (refine KR.mk ?_; kernel_rfl)) only [alg, obP_iff, condP_iff, retP_iff, retM_iff, ofNat_cast, nc, Int.toNat_natCast, decide_eq_true_eq, decide_eq_false_iff_not, wrap_w64, retS_iff, Bool.not_eq_true', Bool.not_eq_false', beq_iff_eq, beq_eq_false_iff_ne, AV.bool.injEq, AV.int.injEq, AV.t2.injEq, AV.t3.injEq, AV.own.injEq, List.cons.injEq, Prod.mk.injEq, Row.ints.injEq, RW, Row.nlen, scalar, imp_self, and_true, true_and, lexT, heldT, tailT, planT, nb, Int.toNat_zero, List.getD_cons_zero, List.getD_cons_succ, List.set_cons_zero, List.set_cons_succ, sd, sb]; omega) (obP.mk (by (try simp only [nc] at *); subst hA hS; simp (disch := (refine KR.mk ?_; kernel_rfl)) only [alg, obP_iff, condP_iff, retP_iff, retM_iff, ofNat_cast, nc, Int.toNat_natCast, decide_eq_true_eq, decide_eq_false_iff_not, wrap_w64, retS_iff, Bool.not_eq_true', Bool.not_eq_false', beq_iff_eq, beq_eq_false_iff_ne, AV.bool.injEq, AV.int.injEq, AV.t2.injEq, AV.t3.injEq, AV.own.injEq, List.cons.injEq, Prod.mk.injEq, Row.ints.injEq, RW, Row.nlen, scalar, imp_self, and_true, true_and, lexT, heldT, tailT, planT, nb, Int.toNat_zero, List.getD_cons_zero, List.getD_cons_succ, List.set_cons_zero, List.set_cons_succ, sd, sb]; rw [hcj, ← hw]; omega) ?_)))
        refine loop1 (fun (m : Nat) => ⟨fr 93 [(0, .ro (.ints .i64 ws)), (1, .ro (.ints .i64 st)), (2, .int .i64 k), (7, .own 1 true), (8, .own 2 false), (9, .int .i64 c), (10, .int .i64 m)], [.dead, .row 34 (.intss tb), .row 3 (.ints .i64 out)]⟩)
          (fun m => m ≤ mst W Q k ∧ pk ws st N j k = dn g m ∧ ∃ x, x ≤ m ∧ g x = true) (fun m => m) (mst W Q k) ?_ ?_ ?_
        · (try simp only [nc] at *); subst hA hS; simp (disch := (refine KR.mk ?_; kernel_rfl)) only [alg, obP_iff, condP_iff, retP_iff, retM_iff, ofNat_cast, nc, Int.toNat_natCast, decide_eq_true_eq, decide_eq_false_iff_not, wrap_w64, retS_iff, Bool.not_eq_true', Bool.not_eq_false', beq_iff_eq, beq_eq_false_iff_ne, AV.bool.injEq, AV.int.injEq, AV.t2.injEq, AV.t3.injEq, AV.own.injEq, List.cons.injEq, Prod.mk.injEq, Row.ints.injEq, RW, Row.nlen, scalar, imp_self, and_true, true_and, lexT, heldT, tailT, planT, nb, Int.toNat_zero, List.getD_cons_zero, List.getD_cons_succ, List.set_cons_zero, List.set_cons_succ, sd, sb]
          have := mn_mst q w W Q k hwW hqQ (by omega)
          simp only [hcj, ← hw, ← hq, this]
          simp [Wk_iff, fr, undefs, wkT, wkV, wkH, okid, Row.nlen, Row.rk, RK.rowk, getO]
        · exact ⟨Nat.le_refl _, hpk, hex⟩
        · rintro m ⟨m1, m2, m3⟩
          cbv
          (try simp only [nc] at *); subst hA hS hr hfr; simp (disch := (refine KR.mk ?_; kernel_rfl)) only [alg, obP_iff, condP_iff, retP_iff, retM_iff, ofNat_cast, nc, Int.toNat_natCast, decide_eq_true_eq, decide_eq_false_iff_not, wrap_w64, retS_iff, Bool.not_eq_true', Bool.not_eq_false', beq_iff_eq, beq_eq_false_iff_ne, AV.bool.injEq, AV.int.injEq, AV.t2.injEq, AV.t3.injEq, AV.own.injEq, List.cons.injEq, Prod.mk.injEq, Row.ints.injEq, RW, Row.nlen, scalar, imp_self, and_true, true_and, lexT, heldT, tailT, planT, nb, Int.toNat_zero, List.getD_cons_zero, List.getD_cons_succ, List.set_cons_zero, List.set_cons_succ, sd, sb]
          have hwW := H1.h
          have hqQ := H2.h
          have hcj := H3.h
          (try simp only [nc] at hwW hqQ)
          have hmk := (mst_le (show 0 < W by omega)).1 m1
          have hmW : (m : Int) * w = ((m * W : Nat) : Int) := by rw [hwW]; simp
          have w1 : w64 ((m : Int) * w) = ((m * W : Nat) : Int) := by rw [hmW, w64_id (by omega)]
          have w2 : w64 ((k : Int) - ((m * W : Nat) : Int)) = ((k - m * W : Nat) : Int) := by rw [w64_id (by omega)]; omega
          have w4 : w64 (c + 1) = ((j + 1 : Nat) : Int) := by rw [w64_id (by omega)]; omega
          have wc : w64 (c - 1) = c - 1 := w64_id (by omega)
          have t1 := htg j (by omega)
          have t2 := htg (j + 1) (by omega)
          have hr := hfit (k - m * W) (by rw [rowF_len]; omega)
          have hjw : m ≤ m * W := Nat.le_mul_of_pos_right m (by omega)
          have w3 : w64 ((rowF ws st N j).getD (k - m * W) 0 + (m : Int)) = (rowF ws st N j).getD (k - m * W) 0 + m := w64_id (by omega)
          simp only [hcj, ← hw, w1, w2, w4, Int.toNat_natCast, t1, t2, rowF_len, w3]
          have hgm : (decide (0 ≤ (rowF ws st N j).getD (k - m * W) 0) && ((rowF ws st N j).getD (k - m * W) 0 + (m : Int) == (rowF ws st N (j + 1)).getD k 0)) = g m := by
            rw [hg, gd, ← hw, ← hW, Bool.eq_iff_iff]
            simp only [Bool.and_eq_true, decide_eq_true_eq, beq_iff_eq]
          rw [hgm]
          refine ⟨fun _ => ⟨by omega, by omega, by omega, fun _ => by omega, fun _ => by omega, fun ht => ?_, fun hf => ?_⟩, fun hn => absurd (by omega) hn⟩
          · have hpkm : pk ws st N j k = m := by rw [m2, dn_t ht]
            refine ⟨by omega, by omega, j, c - 1, ((k - m * W : Nat) : Int), out.set j (m : Int), ?_, ⟨by omega, by omega, by omega, ?_, (m : Int) :: suf, ?_, ?_, ?_⟩, by omega⟩
            · simp only [wc]
              simp [Wk_iff, fr, undefs, wkT, wkV, wkH, okid, Row.nlen, Row.rk, RK.rowk, getO]
            · have := lf_pos hk hpos
              rw [lf, hpkm, ← hw, ← hW] at this
              rw [Int.toNat_natCast]; exact this
            · simp; omega
            · rw [Int.toNat_natCast, hbest, bs, lf, hpkm, ← hw, ← hW]; simp
            · rw [ho, ← d_rep_snoc, List.append_assoc, List.singleton_append, d_app_set _ _ _ _ _ (by simp)]
          · obtain ⟨x, hx, hgx⟩ := m3
            have hxm : x ≠ m := by rintro rfl; rw [hgx] at hf; cases hf
            obtain ⟨m', rfl⟩ : ∃ m', m = m' + 1 := ⟨m - 1, by omega⟩
            have w5 : w64 (((m' + 1 : Nat) : Int) - 1) = (m' : Int) := by rw [w64_id (by omega)]; omega
            refine ⟨m', ?_, ⟨by omega, by rw [m2, dn_f hf], x, by omega, hgx⟩, by omega⟩
            simp only [w5]
            simp [Wk_iff, fr, undefs, wkT, wkV, wkH, okid, Row.nlen, Row.rk, RK.rowk, getO]
      · have h0 : ¬ 0 ≤ c := by
          (try simp only [nc] at *); (try subst hA); (try subst hS); simp (disch := (refine KR.mk ?_; kernel_rfl)) only [alg, obP_iff, condP_iff, retP_iff, retM_iff, ofNat_cast, nc, Int.toNat_natCast, decide_eq_true_eq, decide_eq_false_iff_not, wrap_w64, retS_iff, Bool.not_eq_true', Bool.not_eq_false', beq_iff_eq, beq_eq_false_iff_ne, AV.bool.injEq, AV.int.injEq, AV.t2.injEq, AV.t3.injEq, AV.own.injEq, List.cons.injEq, Prod.mk.injEq, Row.ints.injEq, RW, Row.nlen, scalar, imp_self, and_true, true_and, lexT, heldT, tailT, planT, nb, Int.toNat_zero, List.getD_cons_zero, List.getD_cons_succ, List.set_cons_zero, List.set_cons_succ, sd, sb] at hc2
          exact hc2
        have hi : i = 0 := by omega
        (try simp only [nc] at *); subst hA hS hr hfr; simp (disch := (refine KR.mk ?_; kernel_rfl)) only [alg, obP_iff, condP_iff, retP_iff, retM_iff, ofNat_cast, nc, Int.toNat_natCast, decide_eq_true_eq, decide_eq_false_iff_not, wrap_w64, retS_iff, Bool.not_eq_true', Bool.not_eq_false', beq_iff_eq, beq_eq_false_iff_ne, AV.bool.injEq, AV.int.injEq, AV.t2.injEq, AV.t3.injEq, AV.own.injEq, List.cons.injEq, Prod.mk.injEq, Row.ints.injEq, RW, Row.nlen, scalar, imp_self, and_true, true_and, lexT, heldT, tailT, planT, nb, Int.toNat_zero, List.getD_cons_zero, List.getD_cons_succ, List.set_cons_zero, List.set_cons_succ, sd, sb]
        rw [ho, ← hN, hbest, hi]
        simp [bs]
end Go.Proofs.Ythnbajdkimgigaa
