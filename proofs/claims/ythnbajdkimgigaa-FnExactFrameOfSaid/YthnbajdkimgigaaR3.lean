/-
  Stocks: the tables of the fewest pieces, both sides.
-/
import Derived.Test.YthnbajdkimgigaaR2
import Derived.Test.YthnbajdkimgigaaD2
set_option linter.unusedSimpArgs false
set_option linter.unusedVariables false
namespace Go.Proofs.Ythnbajdkimgigaa
open Go.Ab

/-- 'loop2', what follows the loop kept out of sight. -/
theorem loop2Q {W : (Ex → St → Prop) → St → Prop} {Q : Ex → St → Prop} {s : St} {α β : Type} (F : α → β → St) (R : α → β → Prop) (μ : α → β → Nat) (a0 : α) (b0 : β) (h0 : Wk s (F a0 b0)) (r0 : R a0 b0)
    (h : ∀ Q', Hd (Q' = Q) → ∀ a b, R a b → W (fun ex s' => match ex with | .normal => ∃ a' b', Wk s' (F a' b') ∧ R a' b' ∧ μ a' b' < μ a b | ex => Q' ex s') (F a b)) : loopP W Q s :=
  loop2 F R μ a0 b0 h0 r0 (h Q ⟨rfl⟩)
def lsL (l : List (List Int)) : List Int := (List.range l.length).map (fL l)
def csL (l : List (List Int)) : List Int := (List.range l.length).map (fC l)
theorem lsL_len (l : List (List Int)) : (lsL l).length = l.length := by simp [lsL]
theorem csL_len (l : List (List Int)) : (csL l).length = l.length := by simp [csL]
theorem lsL_get (l : List (List Int)) {i : Nat} (h : i < l.length) : (lsL l).getD i 0 = fL l i := by rw [lsL, range_getD _ _ _ _ h]
theorem csL_get (l : List (List Int)) {i : Nat} (h : i < l.length) : (csL l).getD i 0 = fC l i := by rw [csL, range_getD _ _ _ _ h]
/-- Slips that rules can be made of. -/
def okS (l : List (List Int)) : Prop := l.length ≤ 8 ∧ ∀ i, i < l.length → (1 ≤ fL l i ∧ fL l i ≤ 200) ∧ 0 ≤ fC l i ∧ fC l i ≤ 20
theorem okS_dp {l : List (List Int)} (h : okS l) {n : Int} (hn : 0 ≤ n ∧ n ≤ 400) : dpP (lsL l) (csL l) n := by
  refine ⟨by rw [lsL_len]; exact h.1, by rw [lsL_len, csL_len], fun i hi => ?_, fun i hi => ?_, hn⟩
  · rw [lsL_len] at hi
    rw [lsL_get l hi]
    exact (h.2 i hi).1
  · rw [lsL_len] at hi
    rw [csL_get l hi]
    have := (h.2 i hi).2
    omega
theorem stB_ok {l : List (List Int)} (h : stB l = true) : okS l := ⟨stB_len h, fun i hi => by have := stB_at h hi; omega⟩
theorem map_big_get {p : List Int} {k : Nat} (h : k < p.length) : (p.map big).getD k 0 = big (p.getD k 0) := by
  simp [List.getD_eq_getElem?_getD, List.getElem?_map, List.getElem?_eq_getElem h]
theorem big_bd (v : Int) : 0 ≤ big v ∧ (big v ≤ 1048576 ∨ big v = v) := by
  unfold big; split <;> omega
def minI (a b : Int) : Int := if b < a then b else a
def bigT (l : List (List Int)) (n : Nat) : List (List Int) := (List.range (l.length + 1)).map fun i => (rowF (lsL l) (csL l) n i).map big

structure Sp2 extends Sp where
  tabF : List Int → List Int → Int → List (List Int)
  dp : List Int → List Int → Int → Prop
  lsL : List (List Int) → List Int
  csL : List (List Int) → List Int
  minI : Int → Int → Int
  bigT : List (List Int) → Int → List (List Int)
  os : List (List Int) → Int → Prop
def sp2 : Sp2 := { sp with tabF := fun ws st n => tabF ws st n.toNat, dp := dpP, lsL := lsL, csL := csL, minI := minI, bigT := fun l n => bigT l n.toNat, os := fun l n => okS l ∧ 0 ≤ n ∧ n ≤ 400 }

theorem lengthsOf_ok (l : List (List Int)) (hl : l.length ≤ 1048576) : FC Try.prog 35 [.ro (.recs 2 l)] (.t2 (.own 0 false) (.own 1 false)) [(3, .ints .i64 (lsL l)), (3, .ints .i64 (csL l))] := by
  refine fc_eval sp R4 R4_ok hT hm Try.func35 rfl (by kernel_rfl) rfl rfl ?_
  intro A S r0 fr0 hA hS hr hfr
  cbv
  obtain ⟨L, hL⟩ : ∃ L : Int, L = l.length := ⟨_, rfl⟩
  refine loop3 (fun (i : Nat) (a b : List Int) => ⟨fr 29 [(4, .own 1 false), (5, .own 2 false), (10, .ro (.recs 2 l)), (11, .int .i64 L), (12, .int .i64 i)], [.dead, .row 3 (.ints .i64 a), .row 3 (.ints .i64 b)]⟩)
    (fun i a b => i ≤ l.length ∧ a = (List.range i).map (fL l) ∧ b = (List.range i).map (fC l)) (fun i _ _ => l.length - i) 0 [] [] ?_ ?_ ?_
  · subst hA hS; simp [Wk_iff, fr, undefs, wkT, wkV, wkH, okid, Row.nlen, Row.rk, RK.rowk, getO, alg, hL]
  · simp
  · rintro i a b ⟨i1, ha, hb⟩
    cbv
    (try simp only [nc] at *); subst hA hS hr hfr; simp (disch := (refine KR.mk ?_; kernel_rfl)) only [alg, obP_iff, condP_iff, retP_iff, retM_iff, ofNat_cast, nc, Int.toNat_natCast, decide_eq_true_eq, decide_eq_false_iff_not, wrap_w64, retS_iff, Bool.not_eq_true', Bool.not_eq_false', beq_iff_eq, beq_eq_false_iff_ne, AV.bool.injEq, AV.int.injEq, AV.t2.injEq, AV.t3.injEq, AV.own.injEq, List.cons.injEq, Prod.mk.injEq, Row.ints.injEq, RW, Row.nlen, scalar, imp_self, and_true, true_and, lexT, heldT, tailT, planT, nb, Int.toNat_zero, List.getD_cons_zero, List.getD_cons_succ, List.set_cons_zero, List.set_cons_succ, sp, sb]
    have hal : a.length = i := by rw [ha]; simp
    have hbl : b.length = i := by rw [hb]; simp
    refine ⟨fun hi => ⟨by omega, ?_⟩, fun hi => ?_⟩
    · have hra : a ++ [fL l i] = (List.range (i + 1)).map (fL l) := by rw [range_snoc, ← ha]
      have hrb : b ++ [fC l i] = (List.range (i + 1)).map (fC l) := by rw [range_snoc, ← hb]
      have wi : w64 ((i : Int) + 1) = ((i + 1 : Nat) : Int) := by rw [w64_id (by omega)]; omega
      repeat' (first
        | (refine ⟨by omega, by simp, by omega, by simp, i + 1, a ++ [fL l i], b ++ [fC l i], ?_, ⟨by omega, hra, hrb⟩, by omega⟩
           simp only [wi, fL, fC]
           simp [Wk_iff, fr, undefs, wkT, wkV, wkH, okid, Row.nlen, Row.rk, RK.rowk, getO]
           done)
        | refine And.intro ?_ ?_)
    · have : i = l.length := by omega
      rw [ha, hb, this]; exact ⟨rfl, rfl⟩
theorem least_ok (a b : Int) : FC Try.prog 38 [.int .i64 a, .int .i64 b] (.int .i64 (minI a b)) [] := by
  refine fc_eval sp R4 R4_ok hT hm Try.func38 rfl (by kernel_rfl) rfl rfl ?_
  intro A S r0 fr0 hA hS hr hfr
  cbv
  (try simp only [nc] at *); subst hA hS hr hfr; simp (disch := (refine KR.mk ?_; kernel_rfl)) only [alg, obP_iff, condP_iff, retP_iff, retM_iff, ofNat_cast, nc, Int.toNat_natCast, decide_eq_true_eq, decide_eq_false_iff_not, wrap_w64, retS_iff, Bool.not_eq_true', Bool.not_eq_false', beq_iff_eq, beq_eq_false_iff_ne, AV.bool.injEq, AV.int.injEq, AV.t2.injEq, AV.t3.injEq, AV.own.injEq, List.cons.injEq, Prod.mk.injEq, Row.ints.injEq, RW, Row.nlen, scalar, imp_self, and_true, true_and, lexT, heldT, tailT, planT, nb, Int.toNat_zero, List.getD_cons_zero, List.getD_cons_succ, List.set_cons_zero, List.set_cons_succ, sp, sb, minI]
  refine ⟨fun h => ?_, fun h => ?_⟩ <;> split <;> omega
def F1 (S : Sp2) : List (Nat × (List AV → CR)) :=
  (38, fun args => match args with | [.int .i64 a, .int .i64 b] => .pure (True) (.int .i64 (S.minI a b)) [] | _ => .no) ::
  (39, fun args => match args with | [.ro (.ints .i64 ws), .ro (.ints .i64 st), .int .i64 n] => .pure (S.dp ws st n) (.own 0 true) [(34, .intss (S.tabF ws st n))] | _ => .no) ::
  (35, fun args => match args with | [.ro (.recs 2 l)] => .pure (S.lm l) (.t2 (.own 0 false) (.own 1 false)) [(3, .ints .i64 (S.lsL l)), (3, .ints .i64 (S.csL l))] | _ => .no) ::
  R4 S.toSp
set_option maxRecDepth 100000 in
theorem F1_ok : TabOK Try.prog (tfind (F1 sp2)) := by
  refine tab_cons (fun args => ?_) (tab_cons (fun args => ?_) (tab_cons (fun args => ?_) (R4_ok)))
  · split
    · exact ent_pure fun _ => least_ok _ _
    · exact ent_no
  · split
    · exact ent_pure fun h => fewest_ok _ _ _ h
    · exact ent_no
  · split
    · exact ent_pure fun h => lengthsOf_ok _ h
    · exact ent_no
set_option maxHeartbeats 4000000 in
set_option maxRecDepth 100000 in
theorem ruTables_ok (l : List (List Int)) (n : Int) (hs : okS l) (hnb : 0 ≤ n ∧ n ≤ 400) : FC Try.prog 37 [.ro (.recs 2 l), .int .i64 n] (.own 0 true) [(34, .intss (bigT l n.toNat))] := by
  refine fc_eval sp2 F1 F1_ok hT hm Try.func37 rfl (by kernel_rfl) rfl rfl ?_
  intro A S r0 fr0 hA hS hr hfr
  cbv
  have h := okS_dp hs hnb
  have hl := hs.1
  obtain ⟨N, hN⟩ : ∃ N, N = n.toNat := ⟨_, rfl⟩
  have hnN : n = N := by omega
  obtain ⟨ws, hws⟩ : ∃ ws, ws = lsL l := ⟨_, rfl⟩
  obtain ⟨st, hst⟩ : ∃ st, st = csL l := ⟨_, rfl⟩
  have hwl : ws.length = l.length := by rw [hws, lsL_len]
  rw [← hws, ← hst] at h
  refine loop2 (fun (k : Nat) (out : List Int) => ⟨fr 78 [(0, .ro (.recs 2 l)), (1, .int .i64 n), (5, .own 1 true), (6, .int .i64 k)], [.dead, .row 3 (.ints .i64 out)]⟩)
    (fun k out => k ≤ N + 1 ∧ out = List.replicate k 1048576) (fun k _ => N + 1 - k) 0 [] ?_ ?_ ?_
  · subst hA hS; simp [Wk_iff, fr, undefs, wkT, wkV, wkH, okid, Row.nlen, Row.rk, RK.rowk, getO, alg]
  · simp
  · rintro k out ⟨k2, ho⟩
    have hol : out.length = k := by rw [ho]; simp
    obtain ⟨L, hL⟩ : ∃ L : Int, L = l.length := ⟨_, rfl⟩
    have HN := Hd.mk hnN
    cbv
    refine condP.mk (fun hc => ?_) (fun hc => ?_)
    · (try simp only [nc] at *); subst hA hS hr hfr; simp (disch := (refine KR.mk ?_; kernel_rfl)) only [alg, obP_iff, condP_iff, retP_iff, retM_iff, ofNat_cast, nc, Int.toNat_natCast, decide_eq_true_eq, decide_eq_false_iff_not, wrap_w64, retS_iff, Bool.not_eq_true', Bool.not_eq_false', beq_iff_eq, beq_eq_false_iff_ne, AV.bool.injEq, AV.int.injEq, AV.t2.injEq, AV.t3.injEq, AV.own.injEq, List.cons.injEq, Prod.mk.injEq, Row.ints.injEq, RW, Row.nlen, scalar, imp_self, and_true, true_and, lexT, heldT, tailT, planT, nb, Int.toNat_zero, List.getD_cons_zero, List.getD_cons_succ, List.set_cons_zero, List.set_cons_succ, sp2, sp, sb]
      (try simp only [nc] at *); (try subst hA); (try subst hS); simp (disch := (refine KR.mk ?_; kernel_rfl)) only [alg, obP_iff, condP_iff, retP_iff, retM_iff, ofNat_cast, nc, Int.toNat_natCast, decide_eq_true_eq, decide_eq_false_iff_not, wrap_w64, retS_iff, Bool.not_eq_true', Bool.not_eq_false', beq_iff_eq, beq_eq_false_iff_ne, AV.bool.injEq, AV.int.injEq, AV.t2.injEq, AV.t3.injEq, AV.own.injEq, List.cons.injEq, Prod.mk.injEq, Row.ints.injEq, RW, Row.nlen, scalar, imp_self, and_true, true_and, lexT, heldT, tailT, planT, nb, Int.toNat_zero, List.getD_cons_zero, List.getD_cons_succ, List.set_cons_zero, List.set_cons_succ, sb] at hc
      have wk : w64 ((k : Int) + 1) = ((k + 1 : Nat) : Int) := by rw [w64_id (by omega)]; omega
      refine ⟨by omega, by simp, k + 1, out ++ [1048576], ?_, ⟨by omega, ?_⟩, by omega⟩
      · simp only [wk]
        simp [Wk_iff, fr, undefs, wkT, wkV, wkH, okid, Row.nlen, Row.rk, RK.rowk, getO]
      · rw [ho, d_rep_snoc]
    · have hkn : ¬ (k : Int) ≤ n := by
        (try simp only [nc] at *); (try subst hA); (try subst hS); simp (disch := (refine KR.mk ?_; kernel_rfl)) only [alg, obP_iff, condP_iff, retP_iff, retM_iff, ofNat_cast, nc, Int.toNat_natCast, decide_eq_true_eq, decide_eq_false_iff_not, wrap_w64, retS_iff, Bool.not_eq_true', Bool.not_eq_false', beq_iff_eq, beq_eq_false_iff_ne, AV.bool.injEq, AV.int.injEq, AV.t2.injEq, AV.t3.injEq, AV.own.injEq, List.cons.injEq, Prod.mk.injEq, Row.ints.injEq, RW, Row.nlen, scalar, imp_self, and_true, true_and, lexT, heldT, tailT, planT, nb, Int.toNat_zero, List.getD_cons_zero, List.getD_cons_succ, List.set_cons_zero, List.set_cons_succ, sb] at hc
        exact hc
      have hk : k = N + 1 := by omega
      have hout : out.set 0 0 = (row0 N).map big := by
        rw [ho, hk, row0, d_rep _ _ (by omega)]
        simp [big]
      refine obP.mk (by (try simp only [nc] at *); subst hA hS; simp (disch := (refine KR.mk ?_; kernel_rfl)) only [alg, obP_iff, condP_iff, retP_iff, retM_iff, ofNat_cast, nc, Int.toNat_natCast, decide_eq_true_eq, decide_eq_false_iff_not, wrap_w64, retS_iff, Bool.not_eq_true', Bool.not_eq_false', beq_iff_eq, beq_eq_false_iff_ne, AV.bool.injEq, AV.int.injEq, AV.t2.injEq, AV.t3.injEq, AV.own.injEq, List.cons.injEq, Prod.mk.injEq, Row.ints.injEq, RW, Row.nlen, scalar, imp_self, and_true, true_and, lexT, heldT, tailT, planT, nb, Int.toNat_zero, List.getD_cons_zero, List.getD_cons_succ, List.set_cons_zero, List.set_cons_succ, sp2, sp, sb]; omega) ?_
      refine loop2 (fun (i : Nat) (tb : List (List Int)) => ⟨fr 78 [(1, .int .i64 n), (7, .own 2 false), (26, .ro (.recs 2 l)), (27, .int .i64 L), (28, .int .i64 i)], [.dead, .dead, .row 34 (.intss tb)]⟩)
        (fun i tb => i ≤ l.length ∧ tb = (List.range (i + 1)).map fun i => (rowF ws st N i).map big) (fun i _ => l.length - i) 0 [out.set 0 0] ?_ ?_ ?_
      · subst hA hS; simp [Wk_iff, fr, undefs, wkT, wkV, wkH, okid, Row.nlen, Row.rk, RK.rowk, getO, alg, hL]
      · rw [hout]; exact ⟨by omega, rfl⟩
      · intro i tb hR
        have i1 := hR.1
        have htb := hR.2
        clear hR
        have htl : tb.length = i + 1 := by rw [htb]; simp
        obtain ⟨w, hw⟩ : ∃ w, w = fL l i := ⟨_, rfl⟩
        obtain ⟨q, hq⟩ : ∃ q, q = fC l i := ⟨_, rfl⟩
        obtain ⟨x, hx⟩ : ∃ x, x = l.getD i [] := ⟨_, rfl⟩
        obtain ⟨p, hp⟩ : ∃ p, p = rowF ws st N i := ⟨_, rfl⟩
        have htg : tb.getD i [] = p.map big := by rw [htb, range_getD _ _ _ _ (by omega), hp]
        have hpl : p.length = N + 1 := by rw [hp, rowF_len]
        cbv
        refine condP.mk (fun hc2 => ?_) (fun hc2 => ?_)
        · have hi : i < l.length := by
            (try simp only [nc] at *); (try subst hA); (try subst hS); simp (disch := (refine KR.mk ?_; kernel_rfl)) only [alg, obP_iff, condP_iff, retP_iff, retM_iff, ofNat_cast, nc, Int.toNat_natCast, decide_eq_true_eq, decide_eq_false_iff_not, wrap_w64, retS_iff, Bool.not_eq_true', Bool.not_eq_false', beq_iff_eq, beq_eq_false_iff_ne, AV.bool.injEq, AV.int.injEq, AV.t2.injEq, AV.t3.injEq, AV.own.injEq, List.cons.injEq, Prod.mk.injEq, Row.ints.injEq, RW, Row.nlen, scalar, imp_self, and_true, true_and, lexT, heldT, tailT, planT, nb, Int.toNat_zero, List.getD_cons_zero, List.getD_cons_succ, List.set_cons_zero, List.set_cons_succ, sb] at hc2
            omega
          have hwb := h.w i (by omega)
          have hsb := h.s i (by omega)
          have hwi : ws.getD i 0 = w := by rw [hws, lsL_get l hi, hw]
          have hsi : st.getD i 0 = q := by rw [hst, csL_get l hi, hq]
          rw [hwi] at hwb
          rw [hsi] at hsb
          have hx0 : x.getD 0 0 = w := by rw [hx, hw, fL]
          have hx1 : x.getD 1 0 = q := by rw [hx, hq, fC]
          refine obP.mk (by (try simp only [nc] at *); subst hA hS; simp (disch := (refine KR.mk ?_; kernel_rfl)) only [alg, obP_iff, condP_iff, retP_iff, retM_iff, ofNat_cast, nc, Int.toNat_natCast, decide_eq_true_eq, decide_eq_false_iff_not, wrap_w64, retS_iff, Bool.not_eq_true', Bool.not_eq_false', beq_iff_eq, beq_eq_false_iff_ne, AV.bool.injEq, AV.int.injEq, AV.t2.injEq, AV.t3.injEq, AV.own.injEq, List.cons.injEq, Prod.mk.injEq, Row.ints.injEq, RW, Row.nlen, scalar, imp_self, and_true, true_and, lexT, heldT, tailT, planT, nb, Int.toNat_zero, List.getD_cons_zero, List.getD_cons_succ, List.set_cons_zero, List.set_cons_succ, sp2, sp, sb]; omega) ?_
          obtain ⟨W, hW⟩ : ∃ W, W = w.toNat := ⟨_, rfl⟩
          obtain ⟨Q, hQ⟩ : ∃ Q, Q = q.toNat := ⟨_, rfl⟩
          have hwW : w = W := by omega
          have hqQ : q = Q := by omega
          have hpf : fitR p := by rw [hp]; exact rowF_fit (fun j hj => (h.w j hj).1) N i (by omega)
          refine loop2 (fun (k : Nat) (row : List Int) => ⟨fr 78 [(1, .int .i64 n), (7, .own 2 false), (8, .int .i64 i), (9, .po 3 0), (10, .own 4 true), (11, .int .i64 k), (26, .ro (.recs 2 l)), (27, .int .i64 L), (28, .int .i64 i)], [.dead, .dead, .row 34 (.intss tb), .row 44 (.recs 2 [x]), .row 3 (.ints .i64 row)]⟩)
            (fun k row => k ≤ N + 1 ∧ row = (List.range k).map fun k => big (cell p W Q k)) (fun k _ => N + 1 - k) 0 [] ?_ ?_ ?_
          · subst hA hS; simp [Wk_iff, fr, undefs, wkT, wkV, wkH, okid, Row.nlen, Row.rk, RK.rowk, getO, alg, hL, hx]
          · simp
          · intro k' row hR1
            have q1 := hR1.1
            have hrow := hR1.2
            clear hR1
            have hrl : row.length = k' := by rw [hrow]; simp
            have HW := Hd.mk hwW
            have HQ := Hd.mk hqQ
            cbv
            refine condP.mk (fun hc3 => ?_) (fun hc3 => ?_)
            · have hk' : k' < N + 1 := by
                (try simp only [nc] at *); (try subst hA); (try subst hS); simp (disch := (refine KR.mk ?_; kernel_rfl)) only [alg, obP_iff, condP_iff, retP_iff, retM_iff, ofNat_cast, nc, Int.toNat_natCast, decide_eq_true_eq, decide_eq_false_iff_not, wrap_w64, retS_iff, Bool.not_eq_true', Bool.not_eq_false', beq_iff_eq, beq_eq_false_iff_ne, AV.bool.injEq, AV.int.injEq, AV.t2.injEq, AV.t3.injEq, AV.own.injEq, List.cons.injEq, Prod.mk.injEq, Row.ints.injEq, RW, Row.nlen, scalar, imp_self, and_true, true_and, lexT, heldT, tailT, planT, nb, Int.toNat_zero, List.getD_cons_zero, List.getD_cons_succ, List.set_cons_zero, List.set_cons_succ, sb] at hc3
                omega
              refine loop2 (fun (m : Nat) (c : Int) => ⟨fr 78 [(1, .int .i64 n), (7, .own 2 false), (8, .int .i64 i), (9, .po 3 0), (10, .own 4 true), (11, .int .i64 k'), (12, .int .i64 c), (13, .int .i64 m), (26, .ro (.recs 2 l)), (27, .int .i64 L), (28, .int .i64 i)], [.dead, .dead, .row 34 (.intss tb), .row 44 (.recs 2 [x]), .row 3 (.ints .i64 row)]⟩)
                (fun m c => m ≤ mst W Q k' + 1 ∧ c = big (cellF p W k' m)) (fun m _ => mst W Q k' + 1 - m) 0 1048576 ?_ ?_ ?_
              · subst hA hS; simp [Wk_iff, fr, undefs, wkT, wkV, wkH, okid, Row.nlen, Row.rk, RK.rowk, getO]
              · exact ⟨by omega, by simp [cellF, big]⟩
              · intro m c hR2
                have m1 := hR2.1
                have hcc := hR2.2
                clear hR2
                cbv
                (try simp only [nc] at *)
                have hwW := HW.h
                have hqQ := HQ.h
                (try simp only [nc] at hwW hqQ)
                (try simp only [nc] at *); subst hA hS hr hfr; simp (disch := (refine KR.mk ?_; kernel_rfl)) only [alg, obP_iff, condP_iff, retP_iff, retM_iff, ofNat_cast, nc, Int.toNat_natCast, decide_eq_true_eq, decide_eq_false_iff_not, wrap_w64, retS_iff, Bool.not_eq_true', Bool.not_eq_false', beq_iff_eq, beq_eq_false_iff_ne, AV.bool.injEq, AV.int.injEq, AV.t2.injEq, AV.t3.injEq, AV.own.injEq, List.cons.injEq, Prod.mk.injEq, Row.ints.injEq, RW, Row.nlen, scalar, imp_self, and_true, true_and, lexT, heldT, tailT, planT, nb, Int.toNat_zero, List.getD_cons_zero, List.getD_cons_succ, List.set_cons_zero, List.set_cons_succ, sp2, sp, sb]
                have hms : m ≤ Q + 1 := by
                  have := Nat.min_le_left Q (k' / W)
                  simp only [mst] at m1; omega
                have hmW : (m : Int) * w = ((m * W : Nat) : Int) := by rw [hwW]; simp
                have hmb : (m : Int) * w ≤ 401 * 200 := Int.mul_le_mul (by omega) (by omega) (by omega) (by omega)
                have w1 : w64 ((m : Int) * w) = ((m * W : Nat) : Int) := by rw [w64_id (by omega), hmW]
                have wm : w64 ((m : Int) + 1) = ((m + 1 : Nat) : Int) := by rw [w64_id (by omega)]; omega
                have wk : w64 ((k' : Int) + 1) = ((k' + 1 : Nat) : Int) := by rw [w64_id (by omega)]; omega
                have w2 : w64 ((k' : Int) - ((m * W : Nat) : Int)) = (k' : Int) - ((m * W : Nat) : Int) := w64_id (by omega)
                have e2 : ((k' : Int) - ((m * W : Nat) : Int)).toNat = k' - m * W := by omega
                simp only [hx0, hx1, w1, wm, wk, w2, e2, htg]
                have hle : (decide ((m : Int) ≤ q) && decide (((m * W : Nat) : Int) ≤ (k' : Int))) = decide (m ≤ mst W Q k') := by
                  rw [Bool.eq_iff_iff]
                  simp only [Bool.and_eq_true, decide_eq_true_eq, mst_le (show 0 < W by omega)]
                  omega
                rw [hle]
                refine ⟨fun hc4 => ?_, fun hc4 => ?_⟩
                · have hmm : m ≤ mst W Q k' := of_decide_eq_true hc4
                  have hc4' := (mst_le (show 0 < W by omega)).1 hmm
                  have hr := hpf (k' - m * W) (by omega)
                  have hjw : m ≤ m * W := Nat.le_mul_of_pos_right m (by omega)
                  have hbg := map_big_get (p := p) (k := k' - m * W) (by omega)
                  have hbb := big_bd (p.getD (k' - m * W) 0)
                  have w3 : w64 (big (p.getD (k' - m * W) 0) + (m : Int)) = big (p.getD (k' - m * W) 0) + m := w64_id (by omega)
                  have hcf := cellF_fit (k := k') hpf (show 0 < W by omega) (by omega) m (fun j hj => ((mst_le (s := Q) (show 0 < W by omega)).1 (show j ≤ mst W Q k' by omega)).2)
                  simp only [hbg, w3]
                  refine ⟨by omega, by simp; omega, m + 1, minI c (big (p.getD (k' - m * W) 0) + m), ?_, ⟨by omega, ?_⟩, by omega⟩
                  · simp [Wk_iff, fr, undefs, wkT, wkV, wkH, okid, Row.nlen, Row.rk, RK.rowk, getO]
                  · rw [hcc, cellF_succ, big_upd (by omega) hr.1 (by omega)]; rfl
                · have hmm : ¬ m ≤ mst W Q k' := of_decide_eq_false hc4
                  have hm1 : m = mst W Q k' + 1 := by omega
                  refine ⟨by omega, by simp, k' + 1, row ++ [c], ?_, ⟨by omega, ?_⟩, by omega⟩
                  · simp [Wk_iff, fr, undefs, wkT, wkV, wkH, okid, Row.nlen, Row.rk, RK.rowk, getO]
                  · rw [range_snoc, ← hrow, hcc, hm1]; rfl
            · have hk' : k' = N + 1 := by
                (try simp only [nc] at *); (try subst hA); (try subst hS); simp (disch := (refine KR.mk ?_; kernel_rfl)) only [alg, obP_iff, condP_iff, retP_iff, retM_iff, ofNat_cast, nc, Int.toNat_natCast, decide_eq_true_eq, decide_eq_false_iff_not, wrap_w64, retS_iff, Bool.not_eq_true', Bool.not_eq_false', beq_iff_eq, beq_eq_false_iff_ne, AV.bool.injEq, AV.int.injEq, AV.t2.injEq, AV.t3.injEq, AV.own.injEq, List.cons.injEq, Prod.mk.injEq, Row.ints.injEq, RW, Row.nlen, scalar, imp_self, and_true, true_and, lexT, heldT, tailT, planT, nb, Int.toNat_zero, List.getD_cons_zero, List.getD_cons_succ, List.set_cons_zero, List.set_cons_succ, sb] at hc3
                omega
              have hrf : row = (rowF ws st N (i + 1)).map big := by
                rw [hrow, rowF, rowS, ← hp, hwi, hsi, ← hW, ← hQ, hk', List.map_map]
                rfl
              (try simp only [nc] at *); subst hA hS hr hfr; simp (disch := (refine KR.mk ?_; kernel_rfl)) only [alg, obP_iff, condP_iff, retP_iff, retM_iff, ofNat_cast, nc, Int.toNat_natCast, decide_eq_true_eq, decide_eq_false_iff_not, wrap_w64, retS_iff, Bool.not_eq_true', Bool.not_eq_false', beq_iff_eq, beq_eq_false_iff_ne, AV.bool.injEq, AV.int.injEq, AV.t2.injEq, AV.t3.injEq, AV.own.injEq, List.cons.injEq, Prod.mk.injEq, Row.ints.injEq, RW, Row.nlen, scalar, imp_self, and_true, true_and, lexT, heldT, tailT, planT, nb, Int.toNat_zero, List.getD_cons_zero, List.getD_cons_succ, List.set_cons_zero, List.set_cons_succ, sp2, sp, sb]
              have wi : w64 ((i : Int) + 1) = ((i + 1 : Nat) : Int) := by rw [w64_id (by omega)]; omega
              refine ⟨by omega, by simp, i + 1, tb ++ [row], ?_, ⟨by omega, ?_⟩, by omega⟩
              · simp only [wi]
                simp [Wk_iff, fr, undefs, wkT, wkV, wkH, okid, Row.nlen, Row.rk, RK.rowk, getO]
              · rw [range_snoc, ← htb, hrf]
        · have hi : i = l.length := by
            (try simp only [nc] at *); (try subst hA); (try subst hS); simp (disch := (refine KR.mk ?_; kernel_rfl)) only [alg, obP_iff, condP_iff, retP_iff, retM_iff, ofNat_cast, nc, Int.toNat_natCast, decide_eq_true_eq, decide_eq_false_iff_not, wrap_w64, retS_iff, Bool.not_eq_true', Bool.not_eq_false', beq_iff_eq, beq_eq_false_iff_ne, AV.bool.injEq, AV.int.injEq, AV.t2.injEq, AV.t3.injEq, AV.own.injEq, List.cons.injEq, Prod.mk.injEq, Row.ints.injEq, RW, Row.nlen, scalar, imp_self, and_true, true_and, lexT, heldT, tailT, planT, nb, Int.toNat_zero, List.getD_cons_zero, List.getD_cons_succ, List.set_cons_zero, List.set_cons_succ, sb] at hc2
            omega
          have e : tb = bigT l n.toNat := by rw [htb, bigT, ← hN, ← hws, ← hst, hi]
          (try simp only [nc] at *); subst hA hS hr hfr; simp (disch := (refine KR.mk ?_; kernel_rfl)) only [alg, obP_iff, condP_iff, retP_iff, retM_iff, ofNat_cast, nc, Int.toNat_natCast, decide_eq_true_eq, decide_eq_false_iff_not, wrap_w64, retS_iff, Bool.not_eq_true', Bool.not_eq_false', beq_iff_eq, beq_eq_false_iff_ne, AV.bool.injEq, AV.int.injEq, AV.t2.injEq, AV.t3.injEq, AV.own.injEq, List.cons.injEq, Prod.mk.injEq, Row.ints.injEq, RW, Row.nlen, scalar, imp_self, and_true, true_and, lexT, heldT, tailT, planT, nb, Int.toNat_zero, List.getD_cons_zero, List.getD_cons_succ, List.set_cons_zero, List.set_cons_succ, sp2, sp, sb]
          rw [e]
end Go.Proofs.Ythnbajdkimgigaa
