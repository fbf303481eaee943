/-
  The table of the fewest pieces: the program's function computes it.
-/
import Derived.Test.YthnbajdkimgigaaB0
import Derived.Test.YthnbajdkimgigaaDP
set_option linter.unusedSimpArgs false
set_option linter.unusedVariables false
namespace Go.Proofs.Ythnbajdkimgigaa
open Go.Ab

structure dpP (ws st : List Int) (n : Int) : Prop where
  l : ws.length ≤ 8
  sl : st.length = ws.length
  w : ∀ i, i < ws.length → 1 ≤ ws.getD i 0 ∧ ws.getD i 0 ≤ 200
  s : ∀ i, i < ws.length → 0 ≤ st.getD i 0 ∧ st.getD i 0 ≤ 400
  n : 0 ≤ n ∧ n ≤ 400
theorem d_app_set {α : Type} (p z : List α) (s v : α) (i : Nat) (h : i = p.length) : (p ++ s :: z).set i v = p ++ v :: z := by
  subst h; simp
theorem d_app_ge {α : Type} (d : α) (p z : List α) (i : Nat) (h : p.length ≤ i) : (p ++ z).getD i d = z.getD (i - p.length) d := by
  simp [List.getD_eq_getElem?_getD, List.getElem?_append_right h]
theorem d_rep (n : Nat) (v : Int) (h : 0 < n) : List.replicate n v = v :: List.replicate (n - 1) v := by
  cases n with
  | zero => omega
  | succ n => rfl
theorem d_rep_snoc (n : Nat) (v : Int) : List.replicate n v ++ [v] = List.replicate (n + 1) v := by
  simp [List.replicate_succ']
theorem getD_set_same {α : Type} (d v : α) (l : List α) (i : Nat) (h : i < l.length) : (l.set i v).getD i d = v := by
  simp [List.getD_eq_getElem?_getD, List.getElem?_set, h]

set_option maxHeartbeats 4000000 in
set_option maxRecDepth 100000 in
theorem fewest_ok (ws st : List Int) (n : Int) (h : dpP ws st n) : FC Try.prog 39 [.ro (.ints .i64 ws), .ro (.ints .i64 st), .int .i64 n] (.own 0 true) [(34, .intss (tabF ws st n.toNat))] := by
  refine fc_eval sb B2 B2_ok hT hm Try.func39 rfl (by kernel_rfl) rfl rfl ?_
  intro A S r0 fr0 hA hS hr hfr
  cbv
  have hl := h.l
  have hsl := h.sl
  have hnb := h.n
  have wn : w64 (n + 1) = n + 1 := w64_id (by omega)
  obtain ⟨N, hN⟩ : ∃ N, N = n.toNat := ⟨_, rfl⟩
  have hnN : n = N := by omega
  have hN1 : (n + 1).toNat = N + 1 := by omega
  refine obP.mk (by (try simp only [nc] at *); subst hA hS; simp (disch := (refine KR.mk ?_; kernel_rfl)) only [alg, obP_iff, condP_iff, retP_iff, retM_iff, ofNat_cast, nc, Int.toNat_natCast, decide_eq_true_eq, decide_eq_false_iff_not, wrap_w64, retS_iff, Bool.not_eq_true', Bool.not_eq_false', beq_iff_eq, beq_eq_false_iff_ne, AV.bool.injEq, AV.int.injEq, AV.t2.injEq, AV.t3.injEq, AV.own.injEq, List.cons.injEq, Prod.mk.injEq, Row.ints.injEq, RW, Row.nlen, scalar, imp_self, and_true, true_and, lexT, heldT, tailT, planT, nb, Int.toNat_zero, List.getD_cons_zero, List.getD_cons_succ, List.set_cons_zero, List.set_cons_succ, sb]; rw [wn]; omega) (obP.mk (by (try simp only [nc] at *); subst hA hS; simp (disch := (refine KR.mk ?_; kernel_rfl)) only [alg, obP_iff, condP_iff, retP_iff, retM_iff, ofNat_cast, nc, Int.toNat_natCast, decide_eq_true_eq, decide_eq_false_iff_not, wrap_w64, retS_iff, Bool.not_eq_true', Bool.not_eq_false', beq_iff_eq, beq_eq_false_iff_ne, AV.bool.injEq, AV.int.injEq, AV.t2.injEq, AV.t3.injEq, AV.own.injEq, List.cons.injEq, Prod.mk.injEq, Row.ints.injEq, RW, Row.nlen, scalar, imp_self, and_true, true_and, lexT, heldT, tailT, planT, nb, Int.toNat_zero, List.getD_cons_zero, List.getD_cons_succ, List.set_cons_zero, List.set_cons_succ, sb]) ?_)
  refine loop2 (fun (k : Nat) (out : List Int) => ⟨fr 105 [(0, .ro (.ints .i64 ws)), (1, .ro (.ints .i64 st)), (2, .int .i64 n), (7, .own 1 false), (8, .int .i64 k)], [.dead, .row 3 (.ints .i64 out)]⟩)
    (fun k out => 1 ≤ k ∧ k ≤ N + 1 ∧ out = (0 :: List.replicate (k - 1) (-1)) ++ List.replicate (N + 1 - k) 0) (fun k _ => N + 1 - k) 1 (List.replicate (n + 1).toNat 0) ?_ ?_ ?_
  · (try simp only [nc] at *); subst hA hS; simp (disch := (refine KR.mk ?_; kernel_rfl)) only [alg, obP_iff, condP_iff, retP_iff, retM_iff, ofNat_cast, nc, Int.toNat_natCast, decide_eq_true_eq, decide_eq_false_iff_not, wrap_w64, retS_iff, Bool.not_eq_true', Bool.not_eq_false', beq_iff_eq, beq_eq_false_iff_ne, AV.bool.injEq, AV.int.injEq, AV.t2.injEq, AV.t3.injEq, AV.own.injEq, List.cons.injEq, Prod.mk.injEq, Row.ints.injEq, RW, Row.nlen, scalar, imp_self, and_true, true_and, lexT, heldT, tailT, planT, nb, Int.toNat_zero, List.getD_cons_zero, List.getD_cons_succ, List.set_cons_zero, List.set_cons_succ, sb]
    simp only [wn]
    simp [Wk_iff, fr, undefs, wkT, wkV, wkH, okid, Row.nlen, Row.rk, RK.rowk, getO]
  · refine ⟨by omega, by omega, ?_⟩
    rw [hN1]; rfl
  · rintro k out ⟨k1, k2, ho⟩
    have hol : out.length = N + 1 := by rw [ho]; simp; omega
    obtain ⟨L, hL⟩ : ∃ L : Int, L = ws.length := ⟨_, rfl⟩
    have HN := Hd.mk hnN
    cbv
    refine condP.mk (fun hc => ?_) (fun hc => ?_)
    · (try simp only [nc] at *); subst hA hS hr hfr; simp (disch := (refine KR.mk ?_; kernel_rfl)) only [alg, obP_iff, condP_iff, retP_iff, retM_iff, ofNat_cast, nc, Int.toNat_natCast, decide_eq_true_eq, decide_eq_false_iff_not, wrap_w64, retS_iff, Bool.not_eq_true', Bool.not_eq_false', beq_iff_eq, beq_eq_false_iff_ne, AV.bool.injEq, AV.int.injEq, AV.t2.injEq, AV.t3.injEq, AV.own.injEq, List.cons.injEq, Prod.mk.injEq, Row.ints.injEq, RW, Row.nlen, scalar, imp_self, and_true, true_and, lexT, heldT, tailT, planT, nb, Int.toNat_zero, List.getD_cons_zero, List.getD_cons_succ, List.set_cons_zero, List.set_cons_succ, sb]
      (try simp only [nc] at *); (try subst hA); (try subst hS); simp (disch := (refine KR.mk ?_; kernel_rfl)) only [alg, obP_iff, condP_iff, retP_iff, retM_iff, ofNat_cast, nc, Int.toNat_natCast, decide_eq_true_eq, decide_eq_false_iff_not, wrap_w64, retS_iff, Bool.not_eq_true', Bool.not_eq_false', beq_iff_eq, beq_eq_false_iff_ne, AV.bool.injEq, AV.int.injEq, AV.t2.injEq, AV.t3.injEq, AV.own.injEq, List.cons.injEq, Prod.mk.injEq, Row.ints.injEq, RW, Row.nlen, scalar, imp_self, and_true, true_and, lexT, heldT, tailT, planT, nb, Int.toNat_zero, List.getD_cons_zero, List.getD_cons_succ, List.set_cons_zero, List.set_cons_succ, sb] at hc
      have wk : w64 ((k : Int) + 1) = ((k + 1 : Nat) : Int) := by rw [w64_id (by omega)]; omega
      refine ⟨by omega, k + 1, out.set k (-1), ?_, ⟨by omega, by omega, ?_⟩, by omega⟩
      · simp only [wk]
        simp [Wk_iff, fr, undefs, wkT, wkV, wkH, okid, Row.nlen, Row.rk, RK.rowk, getO]
      · rw [ho, d_rep (N + 1 - k) 0 (by omega), d_app_set _ _ _ _ _ (by simp; omega)]
        have e1 : N + 1 - k - 1 = N + 1 - (k + 1) := by omega
        have e2 : k + 1 - 1 = (k - 1) + 1 := by omega
        rw [e1, e2, ← d_rep_snoc]; simp
    · have hkn : ¬ (k : Int) ≤ n := by
        (try simp only [nc] at *); (try subst hA); (try subst hS); simp (disch := (refine KR.mk ?_; kernel_rfl)) only [alg, obP_iff, condP_iff, retP_iff, retM_iff, ofNat_cast, nc, Int.toNat_natCast, decide_eq_true_eq, decide_eq_false_iff_not, wrap_w64, retS_iff, Bool.not_eq_true', Bool.not_eq_false', beq_iff_eq, beq_eq_false_iff_ne, AV.bool.injEq, AV.int.injEq, AV.t2.injEq, AV.t3.injEq, AV.own.injEq, List.cons.injEq, Prod.mk.injEq, Row.ints.injEq, RW, Row.nlen, scalar, imp_self, and_true, true_and, lexT, heldT, tailT, planT, nb, Int.toNat_zero, List.getD_cons_zero, List.getD_cons_succ, List.set_cons_zero, List.set_cons_succ, sb] at hc
        exact hc
      have hout : out = row0 N := by
        rw [ho, row0]
        have e1 : N + 1 - k = 0 := by omega
        have e2 : k - 1 = N := by omega
        rw [e1, e2]; simp
      refine loop2 (fun (i : Nat) (tb : List (List Int)) => ⟨fr 105 [(1, .ro (.ints .i64 st)), (2, .int .i64 n), (9, .own 2 false), (29, .ro (.ints .i64 ws)), (30, .int .i64 L), (31, .int .i64 i)], [.dead, .dead, .row 34 (.intss tb)]⟩)
        (fun i tb => i ≤ ws.length ∧ tb = (List.range (i + 1)).map (rowF ws st N)) (fun i _ => ws.length - i) 0 [out] ?_ ?_ ?_
      · (try simp only [nc] at *); subst hA hS; simp (disch := (refine KR.mk ?_; kernel_rfl)) only [alg, obP_iff, condP_iff, retP_iff, retM_iff, ofNat_cast, nc, Int.toNat_natCast, decide_eq_true_eq, decide_eq_false_iff_not, wrap_w64, retS_iff, Bool.not_eq_true', Bool.not_eq_false', beq_iff_eq, beq_eq_false_iff_ne, AV.bool.injEq, AV.int.injEq, AV.t2.injEq, AV.t3.injEq, AV.own.injEq, List.cons.injEq, Prod.mk.injEq, Row.ints.injEq, RW, Row.nlen, scalar, imp_self, and_true, true_and, lexT, heldT, tailT, planT, nb, Int.toNat_zero, List.getD_cons_zero, List.getD_cons_succ, List.set_cons_zero, List.set_cons_succ, sb]
        simp [Wk_iff, fr, undefs, wkT, wkV, wkH, okid, Row.nlen, Row.rk, RK.rowk, getO, hL]
      · rw [hout]; exact ⟨by omega, rfl⟩
      · intro i tb hR
        have i1 := hR.1
        have htb := hR.2
        clear hR
        have htl : tb.length = i + 1 := by rw [htb]; simp
        have htg : tb.getD i [] = rowF ws st N i := by rw [htb, range_getD _ _ _ _ (by omega)]
        obtain ⟨w, hw⟩ : ∃ w, w = ws.getD i 0 := ⟨_, rfl⟩
        obtain ⟨q, hq⟩ : ∃ q, q = st.getD i 0 := ⟨_, rfl⟩
        obtain ⟨p, hp⟩ : ∃ p, p = rowF ws st N i := ⟨_, rfl⟩
        have hpl : p.length = N + 1 := by rw [hp, rowF_len]
        rw [← hp] at htg
        obtain ⟨L2, hL2⟩ : ∃ L2 : Int, L2 = ((N + 1 : Nat) : Int) := ⟨_, rfl⟩
        cbv
        refine condP.mk (fun hc2 => ?_) (fun hc2 => ?_)
        · have hi : i < ws.length := by
            (try simp only [nc] at *); (try subst hA); (try subst hS); simp (disch := (refine KR.mk ?_; kernel_rfl)) only [alg, obP_iff, condP_iff, retP_iff, retM_iff, ofNat_cast, nc, Int.toNat_natCast, decide_eq_true_eq, decide_eq_false_iff_not, wrap_w64, retS_iff, Bool.not_eq_true', Bool.not_eq_false', beq_iff_eq, beq_eq_false_iff_ne, AV.bool.injEq, AV.int.injEq, AV.t2.injEq, AV.t3.injEq, AV.own.injEq, List.cons.injEq, Prod.mk.injEq, Row.ints.injEq, RW, Row.nlen, scalar, imp_self, and_true, true_and, lexT, heldT, tailT, planT, nb, Int.toNat_zero, List.getD_cons_zero, List.getD_cons_succ, List.set_cons_zero, List.set_cons_succ, sb] at hc2
            omega
          have hwb := h.w i hi
          have hsb := h.s i hi
          rw [← hw] at hwb
          rw [← hq] at hsb
          refine obP.mk (by (try simp only [nc] at *); subst hA hS; simp (disch := (refine KR.mk ?_; kernel_rfl)) only [alg, obP_iff, condP_iff, retP_iff, retM_iff, ofNat_cast, nc, Int.toNat_natCast, decide_eq_true_eq, decide_eq_false_iff_not, wrap_w64, retS_iff, Bool.not_eq_true', Bool.not_eq_false', beq_iff_eq, beq_eq_false_iff_ne, AV.bool.injEq, AV.int.injEq, AV.t2.injEq, AV.t3.injEq, AV.own.injEq, List.cons.injEq, Prod.mk.injEq, Row.ints.injEq, RW, Row.nlen, scalar, imp_self, and_true, true_and, lexT, heldT, tailT, planT, nb, Int.toNat_zero, List.getD_cons_zero, List.getD_cons_succ, List.set_cons_zero, List.set_cons_succ, sb]; omega) (obP.mk (by (try simp only [nc] at *); subst hA hS; simp (disch := (refine KR.mk ?_; kernel_rfl)) only [alg, obP_iff, condP_iff, retP_iff, retM_iff, ofNat_cast, nc, Int.toNat_natCast, decide_eq_true_eq, decide_eq_false_iff_not, wrap_w64, retS_iff, Bool.not_eq_true', Bool.not_eq_false', beq_iff_eq, beq_eq_false_iff_ne, AV.bool.injEq, AV.int.injEq, AV.t2.injEq, AV.t3.injEq, AV.own.injEq, List.cons.injEq, Prod.mk.injEq, Row.ints.injEq, RW, Row.nlen, scalar, imp_self, and_true, true_and, lexT, heldT, tailT, planT, nb, Int.toNat_zero, List.getD_cons_zero, List.getD_cons_succ, List.set_cons_zero, List.set_cons_succ, sb]; rw [wn]; omega) (obP.mk (by (try simp only [nc] at *); subst hA hS; simp (disch := (refine KR.mk ?_; kernel_rfl)) only [alg, obP_iff, condP_iff, retP_iff, retM_iff, ofNat_cast, nc, Int.toNat_natCast, decide_eq_true_eq, decide_eq_false_iff_not, wrap_w64, retS_iff, Bool.not_eq_true', Bool.not_eq_false', beq_iff_eq, beq_eq_false_iff_ne, AV.bool.injEq, AV.int.injEq, AV.t2.injEq, AV.t3.injEq, AV.own.injEq, List.cons.injEq, Prod.mk.injEq, Row.ints.injEq, RW, Row.nlen, scalar, imp_self, and_true, true_and, lexT, heldT, tailT, planT, nb, Int.toNat_zero, List.getD_cons_zero, List.getD_cons_succ, List.set_cons_zero, List.set_cons_succ, sb]) ?_))
          refine loop2 (fun (k : Nat) (row : List Int) => ⟨fr 105 [(1, .ro (.ints .i64 st)), (2, .int .i64 n), (9, .own 2 false), (10, .int .i64 i), (11, .int .i64 w), (12, .own 3 false), (29, .ro (.ints .i64 ws)), (30, .int .i64 L), (31, .int .i64 i), (40, .int .i64 L2), (41, .int .i64 k)], [.dead, .dead, .row 34 (.intss tb), .row 3 (.ints .i64 row)]⟩)
            (fun k row => k ≤ N + 1 ∧ row = ((List.range k).map (cell p w.toNat q.toNat)) ++ List.replicate (N + 1 - k) 0) (fun k _ => N + 1 - k) 0 (List.replicate (n + 1).toNat 0) ?_ ?_ ?_
          · (try simp only [nc] at *); subst hA hS; simp (disch := (refine KR.mk ?_; kernel_rfl)) only [alg, obP_iff, condP_iff, retP_iff, retM_iff, ofNat_cast, nc, Int.toNat_natCast, decide_eq_true_eq, decide_eq_false_iff_not, wrap_w64, retS_iff, Bool.not_eq_true', Bool.not_eq_false', beq_iff_eq, beq_eq_false_iff_ne, AV.bool.injEq, AV.int.injEq, AV.t2.injEq, AV.t3.injEq, AV.own.injEq, List.cons.injEq, Prod.mk.injEq, Row.ints.injEq, RW, Row.nlen, scalar, imp_self, and_true, true_and, lexT, heldT, tailT, planT, nb, Int.toNat_zero, List.getD_cons_zero, List.getD_cons_succ, List.set_cons_zero, List.set_cons_succ, sb]
            simp only [wn, Int.toNat_natCast, hN1, hw]
            simp [Wk_iff, fr, undefs, wkT, wkV, wkH, okid, Row.nlen, Row.rk, RK.rowk, getO, hL, hL2]
          · refine ⟨by omega, ?_⟩
            rw [hN1]; rfl
          · intro k' row hR1
            have q1 := hR1.1
            have hrow := hR1.2
            clear hR1
            have hrl : row.length = N + 1 := by rw [hrow]; simp; omega
            obtain ⟨W, hW⟩ : ∃ W, W = w.toNat := ⟨_, rfl⟩
            obtain ⟨Q, hQ⟩ : ∃ Q, Q = q.toNat := ⟨_, rfl⟩
            have hwW : w = W := by omega
            have hqQ : q = Q := by omega
            have hpf : fitR p := by rw [hp]; exact rowF_fit (fun j hj => (h.w j hj).1) N i i1
            rw [← hW, ← hQ] at hrow
            have HW := Hd.mk hwW
            have HQ := Hd.mk hqQ
            cbv
            refine condP.mk (fun hc3 => ?_) (fun hc3 => ?_)
            · have hk' : k' < N + 1 := by
                (try simp only [nc] at *); (try subst hA); (try subst hS); simp (disch := (refine KR.mk ?_; kernel_rfl)) only [alg, obP_iff, condP_iff, retP_iff, retM_iff, ofNat_cast, nc, Int.toNat_natCast, decide_eq_true_eq, decide_eq_false_iff_not, wrap_w64, retS_iff, Bool.not_eq_true', Bool.not_eq_false', beq_iff_eq, beq_eq_false_iff_ne, AV.bool.injEq, AV.int.injEq, AV.t2.injEq, AV.t3.injEq, AV.own.injEq, List.cons.injEq, Prod.mk.injEq, Row.ints.injEq, RW, Row.nlen, scalar, imp_self, and_true, true_and, lexT, heldT, tailT, planT, nb, Int.toNat_zero, List.getD_cons_zero, List.getD_cons_succ, List.set_cons_zero, List.set_cons_succ, sb] at hc3
                omega
              have hrow2 : row = ((List.range k').map (cell p W Q)) ++ 0 :: List.replicate (N - k') 0 := by
                rw [hrow, d_rep (N + 1 - k') 0 (by omega)]
                have e1 : N + 1 - k' - 1 = N - k' := by omega
                rw [e1]
              refine obP.mk (by (try simp only [nc] at *); subst hA hS; simp (disch := (refine KR.mk ?_; kernel_rfl)) only [alg, obP_iff, condP_iff, retP_iff, retM_iff, ofNat_cast, nc, Int.toNat_natCast, decide_eq_true_eq, decide_eq_false_iff_not, wrap_w64, retS_iff, Bool.not_eq_true', Bool.not_eq_false', beq_iff_eq, beq_eq_false_iff_ne, AV.bool.injEq, AV.int.injEq, AV.t2.injEq, AV.t3.injEq, AV.own.injEq, List.cons.injEq, Prod.mk.injEq, Row.ints.injEq, RW, Row.nlen, scalar, imp_self, and_true, true_and, lexT, heldT, tailT, planT, nb, Int.toNat_zero, List.getD_cons_zero, List.getD_cons_succ, List.set_cons_zero, List.set_cons_succ, sb]; omega) ?_
              refine loop2 (fun (m : Nat) (rw2 : List Int) => ⟨fr 105 [(1, .ro (.ints .i64 st)), (2, .int .i64 n), (9, .own 2 false), (10, .int .i64 i), (11, .int .i64 w), (12, .own 3 false), (13, .int .i64 k'), (14, .int .i64 m), (29, .ro (.ints .i64 ws)), (30, .int .i64 L), (31, .int .i64 i), (40, .int .i64 L2), (41, .int .i64 k')], [.dead, .dead, .row 34 (.intss tb), .row 3 (.ints .i64 rw2)]⟩)
                (fun m rw2 => m ≤ mst W Q k' + 1 ∧ rw2 = ((List.range k').map (cell p W Q)) ++ cellF p W k' m :: List.replicate (N - k') 0) (fun m _ => mst W Q k' + 1 - m) 0 (row.set k' (-1)) ?_ ?_ ?_
              · (try simp only [nc] at *); subst hA hS; simp (disch := (refine KR.mk ?_; kernel_rfl)) only [alg, obP_iff, condP_iff, retP_iff, retM_iff, ofNat_cast, nc, Int.toNat_natCast, decide_eq_true_eq, decide_eq_false_iff_not, wrap_w64, retS_iff, Bool.not_eq_true', Bool.not_eq_false', beq_iff_eq, beq_eq_false_iff_ne, AV.bool.injEq, AV.int.injEq, AV.t2.injEq, AV.t3.injEq, AV.own.injEq, List.cons.injEq, Prod.mk.injEq, Row.ints.injEq, RW, Row.nlen, scalar, imp_self, and_true, true_and, lexT, heldT, tailT, planT, nb, Int.toNat_zero, List.getD_cons_zero, List.getD_cons_succ, List.set_cons_zero, List.set_cons_succ, sb]
                simp [Wk_iff, fr, undefs, wkT, wkV, wkH, okid, Row.nlen, Row.rk, RK.rowk, getO]
              · refine ⟨by omega, ?_⟩
                rw [hrow2, d_app_set _ _ _ _ _ (by simp)]; rfl
              · intro m rw2 hR2
                have m1 := hR2.1
                have hrw := hR2.2
                clear hR2
                have hrl2 : rw2.length = N + 1 := by rw [hrw]; simp; omega
                have hcg : rw2.getD k' 0 = cellF p W k' m := by rw [hrw, d_app_ge _ _ _ _ (by simp)]; simp
                have hset : ∀ v, rw2.set k' v = ((List.range k').map (cell p W Q)) ++ v :: List.replicate (N - k') 0 := fun v => by rw [hrw, d_app_set _ _ _ _ _ (by simp)]
                cbv
                (try simp only [nc] at *)
                have hwW := HW.h
                have hqQ := HQ.h
                (try simp only [nc] at hwW hqQ)
                (try simp only [nc] at *); subst hA hS hr hfr; simp (disch := (refine KR.mk ?_; kernel_rfl)) only [alg, obP_iff, condP_iff, retP_iff, retM_iff, ofNat_cast, nc, Int.toNat_natCast, decide_eq_true_eq, decide_eq_false_iff_not, wrap_w64, retS_iff, Bool.not_eq_true', Bool.not_eq_false', beq_iff_eq, beq_eq_false_iff_ne, AV.bool.injEq, AV.int.injEq, AV.t2.injEq, AV.t3.injEq, AV.own.injEq, List.cons.injEq, Prod.mk.injEq, Row.ints.injEq, RW, Row.nlen, scalar, imp_self, and_true, true_and, lexT, heldT, tailT, planT, nb, Int.toNat_zero, List.getD_cons_zero, List.getD_cons_succ, List.set_cons_zero, List.set_cons_succ, sb]
                have hms : m ≤ Q + 1 := by
                  have := Nat.min_le_left Q (k' / W)
                  simp only [mst] at m1; omega
                have hmW : (m : Int) * w = ((m * W : Nat) : Int) := by rw [hwW]; simp
                have hmb : (m : Int) * w ≤ 401 * 200 := Int.mul_le_mul (by omega) (by omega) (by omega) (by omega)
                have w1 : w64 ((m : Int) * w) = ((m * W : Nat) : Int) := by rw [w64_id (by omega), hmW]
                have wm : w64 ((m : Int) + 1) = ((m + 1 : Nat) : Int) := by rw [w64_id (by omega)]; omega
                have wk : w64 ((k' : Int) + 1) = ((k' + 1 : Nat) : Int) := by rw [w64_id (by omega)]; omega
                have w2 : w64 ((k' : Int) - ((m * W : Nat) : Int)) = (k' : Int) - ((m * W : Nat) : Int) := w64_id (by omega)
                have e2 : ((k' : Int) - ((m * W : Nat) : Int)).toNat = k' - m * W := by omega
                simp only [w1, wm, wk, w2, e2, htg, hcg, ← hq]
                have hle : (decide ((m : Int) ≤ q) && decide (((m * W : Nat) : Int) ≤ (k' : Int))) = decide (m ≤ mst W Q k') := by
                  rw [Bool.eq_iff_iff]
                  simp only [Bool.and_eq_true, decide_eq_true_eq, mst_le (show 0 < W by omega)]
                  omega
                rw [hle]
                refine ⟨by omega, fun hc4 => ?_, fun hc4 => ?_⟩
                · have hc4' := (mst_le (show 0 < W by omega)).1 (of_decide_eq_true hc4)
                  have hr := hpf (k' - m * W) (by omega)
                  have hjw : m ≤ m * W := Nat.le_mul_of_pos_right m (by omega)
                  have w3 : w64 (p.getD (k' - m * W) 0 + (m : Int)) = p.getD (k' - m * W) 0 + m := w64_id (by omega)
                  rw [w3]
                  have hmm : m ≤ mst W Q k' := of_decide_eq_true hc4
                  refine ⟨by omega, by omega, fun _ => by omega, fun _ => by omega, fun hc5 => ?_, fun hc5 => ?_⟩
                  · have hup : upd (cellF p W k' m) (p.getD (k' - m * W) 0) m = p.getD (k' - m * W) 0 + m := by
                      simp only [Bool.and_eq_true, Bool.or_eq_true, decide_eq_true_eq] at hc5
                      unfold upd; rw [if_pos hc5]
                    refine ⟨by omega, m + 1, rw2.set k' (p.getD (k' - m * W) 0 + m), ?_, ⟨by omega, ?_⟩, by omega⟩
                    · simp [Wk_iff, fr, undefs, wkT, wkV, wkH, okid, Row.nlen, Row.rk, RK.rowk, getO]
                    · rw [hset, cellF_succ, hup]
                  · have hup : upd (cellF p W k' m) (p.getD (k' - m * W) 0) m = cellF p W k' m := by
                      unfold upd; rw [if_neg]
                      intro hh
                      have : (decide (0 ≤ p.getD (k' - m * W) 0) && (decide (cellF p W k' m < 0) || decide (p.getD (k' - m * W) 0 + ↑m < cellF p W k' m))) = true := by
                        simp only [Bool.and_eq_true, Bool.or_eq_true, decide_eq_true_eq]; exact hh
                      rw [hc5] at this; cases this
                    refine ⟨m + 1, rw2, ?_, ⟨by omega, ?_⟩, by omega⟩
                    · simp [Wk_iff, fr, undefs, wkT, wkV, wkH, okid, Row.nlen, Row.rk, RK.rowk, getO]
                    · rw [cellF_succ, hup]; exact hrw
                · have hmm : ¬ m ≤ mst W Q k' := of_decide_eq_false hc4
                  have hm1 : m = mst W Q k' + 1 := by omega
                  refine ⟨k' + 1, rw2, ?_, ⟨by omega, ?_⟩, by omega⟩
                  · simp [Wk_iff, fr, undefs, wkT, wkV, wkH, okid, Row.nlen, Row.rk, RK.rowk, getO]
                  · have e1 : N + 1 - (k' + 1) = N - k' := by omega
                    rw [← hW, ← hQ, range_snoc, e1, hrw, hm1]
                    simp [cell]
            · have hk' : k' = N + 1 := by
                (try simp only [nc] at *); (try subst hA); (try subst hS); simp (disch := (refine KR.mk ?_; kernel_rfl)) only [alg, obP_iff, condP_iff, retP_iff, retM_iff, ofNat_cast, nc, Int.toNat_natCast, decide_eq_true_eq, decide_eq_false_iff_not, wrap_w64, retS_iff, Bool.not_eq_true', Bool.not_eq_false', beq_iff_eq, beq_eq_false_iff_ne, AV.bool.injEq, AV.int.injEq, AV.t2.injEq, AV.t3.injEq, AV.own.injEq, List.cons.injEq, Prod.mk.injEq, Row.ints.injEq, RW, Row.nlen, scalar, imp_self, and_true, true_and, lexT, heldT, tailT, planT, nb, Int.toNat_zero, List.getD_cons_zero, List.getD_cons_succ, List.set_cons_zero, List.set_cons_succ, sb] at hc3
                omega
              have hrf : row = rowF ws st N (i + 1) := by
                rw [hrow, rowF, rowS, ← hp, ← hw, ← hq, ← hW, ← hQ, hk']
                simp
              (try simp only [nc] at *); subst hA hS hr hfr; simp (disch := (refine KR.mk ?_; kernel_rfl)) only [alg, obP_iff, condP_iff, retP_iff, retM_iff, ofNat_cast, nc, Int.toNat_natCast, decide_eq_true_eq, decide_eq_false_iff_not, wrap_w64, retS_iff, Bool.not_eq_true', Bool.not_eq_false', beq_iff_eq, beq_eq_false_iff_ne, AV.bool.injEq, AV.int.injEq, AV.t2.injEq, AV.t3.injEq, AV.own.injEq, List.cons.injEq, Prod.mk.injEq, Row.ints.injEq, RW, Row.nlen, scalar, imp_self, and_true, true_and, lexT, heldT, tailT, planT, nb, Int.toNat_zero, List.getD_cons_zero, List.getD_cons_succ, List.set_cons_zero, List.set_cons_succ, sb]
              have wi : w64 ((i : Int) + 1) = ((i + 1 : Nat) : Int) := by rw [w64_id (by omega)]; omega
              refine ⟨by omega, by simp, i + 1, tb ++ [row], ?_, ⟨by omega, ?_⟩, by omega⟩
              · simp only [wi]
                simp [Wk_iff, fr, undefs, wkT, wkV, wkH, okid, Row.nlen, Row.rk, RK.rowk, getO]
              · rw [range_snoc, ← htb, hrf]
        · have hi : i = ws.length := by
            (try simp only [nc] at *); (try subst hA); (try subst hS); simp (disch := (refine KR.mk ?_; kernel_rfl)) only [alg, obP_iff, condP_iff, retP_iff, retM_iff, ofNat_cast, nc, Int.toNat_natCast, decide_eq_true_eq, decide_eq_false_iff_not, wrap_w64, retS_iff, Bool.not_eq_true', Bool.not_eq_false', beq_iff_eq, beq_eq_false_iff_ne, AV.bool.injEq, AV.int.injEq, AV.t2.injEq, AV.t3.injEq, AV.own.injEq, List.cons.injEq, Prod.mk.injEq, Row.ints.injEq, RW, Row.nlen, scalar, imp_self, and_true, true_and, lexT, heldT, tailT, planT, nb, Int.toNat_zero, List.getD_cons_zero, List.getD_cons_succ, List.set_cons_zero, List.set_cons_succ, sb] at hc2
            omega
          have e : tb = tabF ws st n.toNat := by rw [htb, tabF, ← hN, hi]
          (try simp only [nc] at *); subst hA hS hr hfr; simp (disch := (refine KR.mk ?_; kernel_rfl)) only [alg, obP_iff, condP_iff, retP_iff, retM_iff, ofNat_cast, nc, Int.toNat_natCast, decide_eq_true_eq, decide_eq_false_iff_not, wrap_w64, retS_iff, Bool.not_eq_true', Bool.not_eq_false', beq_iff_eq, beq_eq_false_iff_ne, AV.bool.injEq, AV.int.injEq, AV.t2.injEq, AV.t3.injEq, AV.own.injEq, List.cons.injEq, Prod.mk.injEq, Row.ints.injEq, RW, Row.nlen, scalar, imp_self, and_true, true_and, lexT, heldT, tailT, planT, nb, Int.toNat_zero, List.getD_cons_zero, List.getD_cons_succ, List.set_cons_zero, List.set_cons_succ, sb]
          rw [e]
end Go.Proofs.Ythnbajdkimgigaa
