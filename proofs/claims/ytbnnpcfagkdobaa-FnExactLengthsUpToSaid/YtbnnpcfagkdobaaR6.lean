/-
  Stocks: the lengths that can be made, both sides.
-/
import Derived.Test.YtbnnpcfagkdobaaR5
import Derived.Test.YtbnnpcfagkdobaaAb21
set_option linter.unusedSimpArgs false
set_option linter.unusedVariables false
namespace Go.Proofs.Ytbnnpcfagkdobaa
open Go.Ab

theorem cellF_congr {p q : List Int} {w k : Nat} (h : ∀ x, x ≤ k → p.getD x 0 = q.getD x 0) : ∀ j, cellF p w k j = cellF q w k j
  | 0 => rfl
  | j + 1 => by rw [cellF_succ, cellF_succ, cellF_congr h j, h (k - j * w) (by omega)]
theorem rowF_pre (ws st : List Int) {n m : Nat} (hn : n ≤ m) : ∀ (i k : Nat), k ≤ n → (rowF ws st n i).getD k 0 = (rowF ws st m i).getD k 0
  | 0, k, hk => by
    cases k with
    | zero => rfl
    | succ k =>
      simp only [rowF, row0, List.getD_cons_succ]
      rw [List.getD_eq_getElem?_getD, List.getD_eq_getElem?_getD, List.getElem?_replicate, List.getElem?_replicate, if_pos (by omega), if_pos (by omega)]
  | i + 1, k, hk => by
    rw [rowF_succ_get _ _ _ _ _ hk, rowF_succ_get _ _ _ _ _ (by omega)]
    exact cellF_congr (fun x hx => rowF_pre ws st hn i x (by omega)) _
def mkL (l : List (List Int)) : List Int := rowF (lsL l) (csL l) 400 l.length
theorem mkL_len (l : List (List Int)) : (mkL l).length = 401 := by rw [mkL, rowF_len]
theorem mkL_fit {l : List (List Int)} (h : okS l) {k : Nat} (hk : k ≤ 400) : -1 ≤ (mkL l).getD k 0 ∧ (mkL l).getD k 0 ≤ k := by
  have := okS_dp h (n := 400) (by omega)
  exact rowF_fit (fun j hj => (this.w j hj).1) 400 l.length (by rw [lsL_len]; omega) k (by rw [rowF_len]; omega)
/-- What the other side's table holds. -/
theorem big_lt {v : Int} (h : v ≤ 400) : (big v < 1048576) ↔ 0 ≤ v := by unfold big; split <;> omega
theorem bigT_mk {l : List (List Int)} (h : okS l) {n k : Nat} (hn : n ≤ 400) (hk : k ≤ n) : ((bigT l n).getD l.length []).getD k 0 = big ((mkL l).getD k 0) := by
  rw [bigT_get _ _ _ (Nat.le_refl _), map_big_get (by rw [rowF_len]; omega), rowF_pre _ _ hn _ _ hk]; rfl
def mis (l : List (List Int)) (k : Nat) : Bool := decide ((mkL l).getD k 0 < 0)
/-- The first length from n on that can be made. -/
def mfW (l : List (List Int)) (n : Nat) : Nat := wh (mis l) (401 - n) n
def mfB (l : List (List Int)) (n : Int) : Bool := rlB l n && decide (mfW l n.toNat ≤ 400)
def mfV (l : List (List Int)) (n : Int) : Int := if mfB l n then (mfW l n.toNat : Int) - n else 0
/-- The lengths from 1 to n that can be made. -/
def upL (l : List (List Int)) : Nat → List Int
  | 0 => []
  | n + 1 => if mis l (n + 1) then upL l n else upL l n ++ [((n + 1 : Nat) : Int)]
theorem upL_len (l : List (List Int)) : ∀ n, (upL l n).length ≤ n
  | 0 => by simp [upL]
  | n + 1 => by
    have := upL_len l n
    unfold upL; split
    · omega
    · simp; exact this
def luB (l : List (List Int)) (n : Int) : Bool := stB l && inR n 0 400
def luL (l : List (List Int)) (n : Int) : List Int := if luB l n then upL l n.toNat else []
structure Sp4 extends Sp3 where
  mkL : List (List Int) → List Int
  ok : List (List Int) → Prop
  mfB : List (List Int) → Int → Bool
  mfV : List (List Int) → Int → Int
  luB : List (List Int) → Int → Bool
  luL : List (List Int) → Int → List Int
def sp4 : Sp4 := { sp3 with mkL := mkL, ok := okS, mfB := mfB, mfV := mfV, luB := luB, luL := luL }
set_option maxRecDepth 100000 in
theorem makeable_ok (l : List (List Int)) (h : okS l) : FC Try.prog 63 [.ro (.recs 2 l)] (.ro (.ints .i64 (mkL l))) [] := by
  refine fc_inner sp2 F2 F2_ok hT hm 6 Try.func63 rfl (by kernel_rfl) rfl rfl ⟨rfl, rfl, rfl⟩ ⟨rfl, rfl, rfl⟩ rfl ?_
  intro A S r0 hA hS hr
  cbv
  (try simp only [nc] at *); subst hA hS hr; simp (disch := (refine KR.mk ?_; kernel_rfl)) only [alg, obP_iff, condP_iff, retP_iff, retM_iff, ofNat_cast, nc, Int.toNat_natCast, decide_eq_true_eq, decide_eq_false_iff_not, wrap_w64, Bool.not_eq_true', Bool.not_eq_false', beq_iff_eq, beq_eq_false_iff_ne, AV.bool.injEq, AV.int.injEq, AV.t2.injEq, AV.t3.injEq, AV.own.injEq, List.cons.injEq, Prod.mk.injEq, Row.ints.injEq, RW, Row.nlen, scalar, imp_self, and_true, true_and, lexT, heldT, tailT, planT, nb, Int.toNat_zero, List.getD_cons_zero, List.getD_cons_succ, List.set_cons_zero, List.set_cons_succ, eqP_iff, sp2, sp, sb]
  have hl := h.1
  refine ⟨by omega, okS_dp h (by omega), ?_, ?_⟩
  · rw [show (400 : Int).toNat = 400 from rfl, tabF_len, lsL_len]; omega
  · rw [show (400 : Int).toNat = 400 from rfl, tabF_get _ _ _ _ (by rw [lsL_len]; omega)]; rfl
def M1 (S : Sp4) : List (Nat × (List AV → CR)) :=
  (63, fun args => match args with | [.ro (.recs 2 l)] => .pure (S.ok l) (.ro (.ints .i64 (S.mkL l))) [] | _ => .no) ::
  G0 S.toSp3
set_option maxRecDepth 100000 in
theorem M1_ok : TabOK Try.prog (tfind (M1 sp4)) := by
  refine tab_cons (fun args => ?_) (G0_ok)
  · split
    · exact ent_pure fun h => makeable_ok _ h
    · exact ent_no
theorem mf_step {l : List (List Int)} {n k : Nat} (h : mfW l n = wh (mis l) (401 - k) k) (hk : k ≤ 400) (hm : mis l k = true) : mfW l n = wh (mis l) (401 - (k + 1)) (k + 1) := by
  rw [h, show 401 - k = (400 - k) + 1 by omega, wh_t hm, show 400 - k = 401 - (k + 1) by omega]
set_option maxRecDepth 100000 in
theorem implMF_ok (l : List (List Int)) (n : Int) (hl : l.length ≤ 1048576) : FC Try.prog 32 [.ro (.recs 2 l), .int .i64 n] (.t2 (.int .i64 (mfV l n)) (.bool (mfB l n))) [] := by
  refine fc_eval sp4 M1 M1_ok hT hm Try.func32 rfl (by kernel_rfl) rfl rfl ?_
  intro A S r0 fr0 hA hS hr hfr
  cbv
  repeat refine obP.mk (by subst hA hS; first | assumption | trivial | exact fun _ => trivial | exact fun h => h | exact fun _ => ‹_› | (simp [alg, sp4, sp3, sp2, sp, sb])) ?_
  refine condP.mk (fun hc => ?_) (fun hc => ?_)
  · have hf : (!(stB l) || !(inR n 1 400)) = true := by subst hA hS; exact hc
    rw [nb, Bool.not_eq_true'] at hf
    have hf2 : rlB l n = false := hf
    (try simp only [nc] at *); subst hA hS hr hfr; simp (disch := (refine KR.mk ?_; kernel_rfl)) only [alg, obP_iff, condP_iff, retP_iff, retM_iff, ofNat_cast, nc, Int.toNat_natCast, decide_eq_true_eq, decide_eq_false_iff_not, wrap_w64, Bool.not_eq_true', Bool.not_eq_false', beq_iff_eq, beq_eq_false_iff_ne, AV.bool.injEq, AV.int.injEq, AV.t2.injEq, AV.t3.injEq, AV.own.injEq, List.cons.injEq, Prod.mk.injEq, Row.ints.injEq, RW, Row.nlen, scalar, imp_self, and_true, true_and, lexT, heldT, tailT, planT, nb, Int.toNat_zero, List.getD_cons_zero, List.getD_cons_succ, List.set_cons_zero, List.set_cons_succ, sp4, sp3, sp2, sp, sb]
    simp [mfV, mfB, hf2]
  · have hf : (!(stB l) || !(inR n 1 400)) = false := by subst hA hS; exact hc
    rw [nb, Bool.not_eq_false'] at hf
    have hf2 : rlB l n = true := hf
    have hn := inR_iff.1 (Bool.and_eq_true_iff.1 hf).2
    have hs := stB_ok (Bool.and_eq_true_iff.1 hf).1
    obtain ⟨M, hM⟩ : ∃ M, M = mkL l := ⟨_, rfl⟩
    have hml : M.length = 401 := by rw [hM, mkL_len]
    have hmi : ∀ k, mis l k = decide (M.getD k 0 < 0) := fun k => by rw [hM]; rfl
    refine obP.mk (by subst hA hS; exact hs) ?_
    refine loop1 (fun (k : Nat) => ⟨fr 31 [(1, .int .i64 n), (6, .ro (.ints .i64 M)), (7, .int .i64 k)], [.dead]⟩)
      (fun k => n.toNat ≤ k ∧ k ≤ 401 ∧ mfW l n.toNat = wh (mis l) (401 - k) k) (fun k => 401 - k) n.toNat ?_ ?_ ?_
    · subst hA hS; simp [Wk_iff, fr, undefs, wkT, wkV, wkH, okid, Row.nlen, getO, alg, sp4, hM]; omega
    · exact ⟨Nat.le_refl _, by omega, rfl⟩
    · intro k hR
      have k1 := hR.1
      have k2 := hR.2.1
      have k3 := hR.2.2
      clear hR
      cbv
      (try simp only [nc] at *); subst hA hS hr hfr; simp (disch := (refine KR.mk ?_; kernel_rfl)) only [alg, obP_iff, condP_iff, retP_iff, retM_iff, ofNat_cast, nc, Int.toNat_natCast, decide_eq_true_eq, decide_eq_false_iff_not, wrap_w64, Bool.not_eq_true', Bool.not_eq_false', beq_iff_eq, beq_eq_false_iff_ne, AV.bool.injEq, AV.int.injEq, AV.t2.injEq, AV.t3.injEq, AV.own.injEq, List.cons.injEq, Prod.mk.injEq, Row.ints.injEq, RW, Row.nlen, scalar, imp_self, and_true, true_and, lexT, heldT, tailT, planT, nb, Int.toNat_zero, List.getD_cons_zero, List.getD_cons_succ, List.set_cons_zero, List.set_cons_succ, sp4, sp3, sp2, sp, sb]
      have w1 : w64 ((k : Int) + 1) = ((k + 1 : Nat) : Int) := by rw [w64_id (by omega)]; omega
      have w2 : w64 ((k : Int) - n) = (k : Int) - n := w64_id (by omega)
      simp only [w1, w2]
      refine ⟨fun hk => ⟨by omega, fun hv => ?_, fun hv => ⟨k + 1, ?_, ⟨by omega, by omega, ?_⟩, by omega⟩⟩, fun hk => ?_⟩
      · have hw : mfW l n.toNat = k := by rw [k3, wh_f (by rw [hmi, decide_eq_false_iff_not]; omega)]
        have hb : mfB l n = true := by rw [mfB, hf2, hw]; simp; omega
        rw [mfV, hb, hw]; simp
      · simp [Wk_iff, fr, undefs, wkT, wkV, wkH, okid, Row.nlen, getO]
      · exact mf_step k3 (by omega) (by rw [hmi, decide_eq_true_eq]; omega)
      · have hw : mfW l n.toNat = 401 := by rw [k3, show 401 - k = 0 by omega]; simp [wh]; omega
        have hb : mfB l n = false := by rw [mfB, hw]; simp
        rw [mfV, hb]; simp
set_option maxRecDepth 100000 in
theorem specMF_ok (l : List (List Int)) (n : Int) (hl : l.length ≤ 1048576) : FC Try.prog 31 [.ro (.recs 2 l), .int .i64 n] (.t2 (.int .i64 (mfV l n)) (.bool (mfB l n))) [] := by
  refine fc_eval sp4 M1 M1_ok hT hm Try.func31 rfl (by kernel_rfl) rfl rfl ?_
  intro A S r0 fr0 hA hS hr hfr
  cbv
  repeat refine obP.mk (by subst hA hS; first | assumption | trivial | exact fun _ => trivial | exact fun h => h | exact fun _ => ‹_› | (simp [alg, sp4, sp3, sp2, sp, sb])) ?_
  refine condP.mk (fun hc => ?_) (fun hc => ?_)
  · have hf : (!(stB l) || !(inR n 1 400)) = true := by subst hA hS; exact hc
    rw [nb, Bool.not_eq_true'] at hf
    have hf2 : rlB l n = false := hf
    (try simp only [nc] at *); subst hA hS hr hfr; simp (disch := (refine KR.mk ?_; kernel_rfl)) only [alg, obP_iff, condP_iff, retP_iff, retM_iff, ofNat_cast, nc, Int.toNat_natCast, decide_eq_true_eq, decide_eq_false_iff_not, wrap_w64, Bool.not_eq_true', Bool.not_eq_false', beq_iff_eq, beq_eq_false_iff_ne, AV.bool.injEq, AV.int.injEq, AV.t2.injEq, AV.t3.injEq, AV.own.injEq, List.cons.injEq, Prod.mk.injEq, Row.ints.injEq, RW, Row.nlen, scalar, imp_self, and_true, true_and, lexT, heldT, tailT, planT, nb, Int.toNat_zero, List.getD_cons_zero, List.getD_cons_succ, List.set_cons_zero, List.set_cons_succ, sp4, sp3, sp2, sp, sb]
    simp [mfV, mfB, hf2]
  · have hf : (!(stB l) || !(inR n 1 400)) = false := by subst hA hS; exact hc
    rw [nb, Bool.not_eq_false'] at hf
    have hf2 : rlB l n = true := hf
    have hn := inR_iff.1 (Bool.and_eq_true_iff.1 hf).2
    have hs := stB_ok (Bool.and_eq_true_iff.1 hf).1
    obtain ⟨T, hT0⟩ : ∃ T, T = (bigT l 400).getD l.length [] := ⟨_, rfl⟩
    have hTl : T.length = 401 := by rw [hT0, bigT_get _ _ _ (Nat.le_refl _), List.length_map, rowF_len]
    have hTg : ∀ k, k ≤ 400 → T.getD k 0 = big ((mkL l).getD k 0) := fun k hk => by rw [hT0, bigT_mk hs (Nat.le_refl _) hk]
    refine obP.mk (by subst hA hS; exact ⟨hs, by omega⟩) (obP.mk (by (try simp only [nc] at *); subst hA hS; simp (disch := (refine KR.mk ?_; kernel_rfl)) only [alg, obP_iff, condP_iff, retP_iff, retM_iff, ofNat_cast, nc, Int.toNat_natCast, decide_eq_true_eq, decide_eq_false_iff_not, wrap_w64, Bool.not_eq_true', Bool.not_eq_false', beq_iff_eq, beq_eq_false_iff_ne, AV.bool.injEq, AV.int.injEq, AV.t2.injEq, AV.t3.injEq, AV.own.injEq, List.cons.injEq, Prod.mk.injEq, Row.ints.injEq, RW, Row.nlen, scalar, imp_self, and_true, true_and, lexT, heldT, tailT, planT, nb, Int.toNat_zero, List.getD_cons_zero, List.getD_cons_succ, List.set_cons_zero, List.set_cons_succ, sp4, sp3, sp2, sp, sb]; rw [bigT_len]; omega) ?_)
    refine loop1 (fun (k : Nat) => ⟨fr 35 [(1, .int .i64 n), (6, .ro (.ints .i64 T)), (7, .int .i64 k)], [.dead]⟩)
      (fun k => n.toNat ≤ k ∧ k ≤ 401 ∧ mfW l n.toNat = wh (mis l) (401 - k) k) (fun k => 401 - k) n.toNat ?_ ?_ ?_
    · subst hA hS; simp [Wk_iff, fr, undefs, wkT, wkV, wkH, okid, Row.nlen, getO, alg, sp4, sp3, sp2, hT0]; omega
    · exact ⟨Nat.le_refl _, by omega, rfl⟩
    · intro k hR
      have k1 := hR.1
      have k2 := hR.2.1
      have k3 := hR.2.2
      clear hR
      cbv
      (try simp only [nc] at *); subst hA hS hr hfr; simp (disch := (refine KR.mk ?_; kernel_rfl)) only [alg, obP_iff, condP_iff, retP_iff, retM_iff, ofNat_cast, nc, Int.toNat_natCast, decide_eq_true_eq, decide_eq_false_iff_not, wrap_w64, Bool.not_eq_true', Bool.not_eq_false', beq_iff_eq, beq_eq_false_iff_ne, AV.bool.injEq, AV.int.injEq, AV.t2.injEq, AV.t3.injEq, AV.own.injEq, List.cons.injEq, Prod.mk.injEq, Row.ints.injEq, RW, Row.nlen, scalar, imp_self, and_true, true_and, lexT, heldT, tailT, planT, nb, Int.toNat_zero, List.getD_cons_zero, List.getD_cons_succ, List.set_cons_zero, List.set_cons_succ, sp4, sp3, sp2, sp, sb]
      have w1 : w64 ((k : Int) + 1) = ((k + 1 : Nat) : Int) := by rw [w64_id (by omega)]; omega
      have w2 : w64 ((k : Int) - n) = (k : Int) - n := w64_id (by omega)
      simp only [w1, w2]
      refine ⟨fun hk => ⟨by omega, fun hv => ?_, fun hv => ⟨k + 1, ?_, ⟨by omega, by omega, ?_⟩, by omega⟩⟩, fun hk => ?_⟩
      · have hft := mkL_fit hs (k := k) (by omega)
        rw [hTg k (by omega), big_lt (by omega)] at hv
        have hw : mfW l n.toNat = k := by rw [k3, wh_f (by rw [mis, decide_eq_false_iff_not]; omega)]
        have hb : mfB l n = true := by rw [mfB, hf2, hw]; simp; omega
        rw [mfV, hb, hw]; simp
      · simp [Wk_iff, fr, undefs, wkT, wkV, wkH, okid, Row.nlen, getO]
      · have hft := mkL_fit hs (k := k) (by omega)
        rw [hTg k (by omega), big_lt (by omega)] at hv
        exact mf_step k3 (by omega) (by rw [mis, decide_eq_true_eq]; omega)
      · have hw : mfW l n.toNat = 401 := by rw [k3, show 401 - k = 0 by omega]; simp [wh]; omega
        have hb : mfB l n = false := by rw [mfB, hw]; simp
        rw [mfV, hb]; simp
set_option maxRecDepth 100000 in
theorem implLU_ok (l : List (List Int)) (n : Int) (hl : l.length ≤ 1048576) : FC Try.prog 37 [.ro (.recs 2 l), .int .i64 n] (.t2 (.own 0 true) (.bool (luB l n))) [(3, .ints .i64 (luL l n))] := by
  refine fc_eval sp4 M1 M1_ok hT hm Try.func37 rfl (by kernel_rfl) rfl rfl ?_
  intro A S r0 fr0 hA hS hr hfr
  cbv
  repeat refine obP.mk (by subst hA hS; first | assumption | trivial | exact fun _ => trivial | exact fun h => h | exact fun _ => ‹_› | (simp [alg, sp4, sp3, sp2, sp, sb])) ?_
  refine condP.mk (fun hc => ?_) (fun hc => ?_)
  · have hf : (!(stB l) || !(inR n 0 400)) = true := by subst hA hS; exact hc
    rw [nb, Bool.not_eq_true'] at hf
    have hf2 : luB l n = false := hf
    (try simp only [nc] at *); subst hA hS hr hfr; simp (disch := (refine KR.mk ?_; kernel_rfl)) only [alg, obP_iff, condP_iff, retP_iff, retM_iff, ofNat_cast, nc, Int.toNat_natCast, decide_eq_true_eq, decide_eq_false_iff_not, wrap_w64, Bool.not_eq_true', Bool.not_eq_false', beq_iff_eq, beq_eq_false_iff_ne, AV.bool.injEq, AV.int.injEq, AV.t2.injEq, AV.t3.injEq, AV.own.injEq, List.cons.injEq, Prod.mk.injEq, Row.ints.injEq, RW, Row.nlen, scalar, imp_self, and_true, true_and, lexT, heldT, tailT, planT, nb, Int.toNat_zero, List.getD_cons_zero, List.getD_cons_succ, List.set_cons_zero, List.set_cons_succ, sp4, sp3, sp2, sp, sb]
    simp [luL, hf2]
  · have hf : (!(stB l) || !(inR n 0 400)) = false := by subst hA hS; exact hc
    rw [nb, Bool.not_eq_false'] at hf
    have hf2 : luB l n = true := hf
    have hn := inR_iff.1 (Bool.and_eq_true_iff.1 hf).2
    have hs := stB_ok (Bool.and_eq_true_iff.1 hf).1
    obtain ⟨M, hM⟩ : ∃ M, M = mkL l := ⟨_, rfl⟩
    have hml : M.length = 401 := by rw [hM, mkL_len]
    have hmi : ∀ k, mis l k = decide (M.getD k 0 < 0) := fun k => by rw [hM]; rfl
    refine obP.mk (by subst hA hS; exact hs) ?_
    refine loop2 (fun (k : Nat) (out : List Int) => ⟨fr 36 [(1, .int .i64 n), (6, .ro (.ints .i64 M)), (7, .own 1 false), (8, .int .i64 k)], [.dead, .row 3 (.ints .i64 out)]⟩)
      (fun k out => 1 ≤ k ∧ k ≤ n.toNat + 1 ∧ out = upL l (k - 1)) (fun k _ => n.toNat + 1 - k) 1 [] ?_ ?_ ?_
    · subst hA hS; simp [Wk_iff, fr, undefs, wkT, wkV, wkH, okid, Row.nlen, getO, alg, sp4, hM]
    · exact ⟨by omega, by omega, rfl⟩
    · intro k out hR
      have k0 := hR.1
      have k1 := hR.2.1
      have k2 := hR.2.2
      clear hR
      have hol := upL_len l (k - 1)
      rw [← k2] at hol
      have hst : upL l k = if mis l k then upL l (k - 1) else upL l (k - 1) ++ [(k : Int)] := by
        obtain ⟨j, rfl⟩ : ∃ j, k = j + 1 := ⟨k - 1, by omega⟩
        rfl
      cbv
      (try simp only [nc] at *); subst hA hS hr hfr; simp (disch := (refine KR.mk ?_; kernel_rfl)) only [alg, obP_iff, condP_iff, retP_iff, retM_iff, ofNat_cast, nc, Int.toNat_natCast, decide_eq_true_eq, decide_eq_false_iff_not, wrap_w64, Bool.not_eq_true', Bool.not_eq_false', beq_iff_eq, beq_eq_false_iff_ne, AV.bool.injEq, AV.int.injEq, AV.t2.injEq, AV.t3.injEq, AV.own.injEq, List.cons.injEq, Prod.mk.injEq, Row.ints.injEq, RW, Row.nlen, scalar, imp_self, and_true, true_and, lexT, heldT, tailT, planT, nb, Int.toNat_zero, List.getD_cons_zero, List.getD_cons_succ, List.set_cons_zero, List.set_cons_succ, sp4, sp3, sp2, sp, sb]
      have w1 : w64 ((k : Int) + 1) = ((k + 1 : Nat) : Int) := by rw [w64_id (by omega)]; omega
      try simp only [w1]
      refine ⟨fun hk => ⟨by omega, fun hv => ⟨by omega, by simp, k + 1, out ++ [(k : Int)], ?_, ⟨by omega, by omega, ?_⟩, by omega⟩, fun hv => ⟨k + 1, out, ?_, ⟨by omega, by omega, ?_⟩, by omega⟩⟩, fun hk => ?_⟩
      · simp [Wk_iff, fr, undefs, wkT, wkV, wkH, okid, Row.nlen, getO]
      · rw [show k + 1 - 1 = k by omega, hst, hmi, decide_eq_false (by omega), k2]; rfl
      · simp [Wk_iff, fr, undefs, wkT, wkV, wkH, okid, Row.nlen, getO]
      · rw [show k + 1 - 1 = k by omega, hst, hmi, decide_eq_true (by omega), k2]; rfl
      · have : k = n.toNat + 1 := by omega
        rw [hf2, luL, if_pos hf2, k2, this]
        simp
set_option maxRecDepth 100000 in
theorem specLU_ok (l : List (List Int)) (n : Int) (hl : l.length ≤ 1048576) : FC Try.prog 36 [.ro (.recs 2 l), .int .i64 n] (.t2 (.own 0 true) (.bool (luB l n))) [(3, .ints .i64 (luL l n))] := by
  refine fc_eval sp4 M1 M1_ok hT hm Try.func36 rfl (by kernel_rfl) rfl rfl ?_
  intro A S r0 fr0 hA hS hr hfr
  cbv
  repeat refine obP.mk (by subst hA hS; first | assumption | trivial | exact fun _ => trivial | exact fun h => h | exact fun _ => ‹_› | (simp [alg, sp4, sp3, sp2, sp, sb])) ?_
  refine condP.mk (fun hc => ?_) (fun hc => ?_)
  · have hf : (!(stB l) || !(inR n 0 400)) = true := by subst hA hS; exact hc
    rw [nb, Bool.not_eq_true'] at hf
    have hf2 : luB l n = false := hf
    (try simp only [nc] at *); subst hA hS hr hfr; simp (disch := (refine KR.mk ?_; kernel_rfl)) only [alg, obP_iff, condP_iff, retP_iff, retM_iff, ofNat_cast, nc, Int.toNat_natCast, decide_eq_true_eq, decide_eq_false_iff_not, wrap_w64, Bool.not_eq_true', Bool.not_eq_false', beq_iff_eq, beq_eq_false_iff_ne, AV.bool.injEq, AV.int.injEq, AV.t2.injEq, AV.t3.injEq, AV.own.injEq, List.cons.injEq, Prod.mk.injEq, Row.ints.injEq, RW, Row.nlen, scalar, imp_self, and_true, true_and, lexT, heldT, tailT, planT, nb, Int.toNat_zero, List.getD_cons_zero, List.getD_cons_succ, List.set_cons_zero, List.set_cons_succ, sp4, sp3, sp2, sp, sb]
    simp [luL, hf2]
  · have hf : (!(stB l) || !(inR n 0 400)) = false := by subst hA hS; exact hc
    rw [nb, Bool.not_eq_false'] at hf
    have hf2 : luB l n = true := hf
    have hn := inR_iff.1 (Bool.and_eq_true_iff.1 hf).2
    have hs := stB_ok (Bool.and_eq_true_iff.1 hf).1
    obtain ⟨T, hT0⟩ : ∃ T, T = (bigT l n.toNat).getD l.length [] := ⟨_, rfl⟩
    have hTl : T.length = n.toNat + 1 := by rw [hT0, bigT_get _ _ _ (Nat.le_refl _), List.length_map, rowF_len]
    have hTg : ∀ k, k ≤ n.toNat → T.getD k 0 = big ((mkL l).getD k 0) := fun k hk => by rw [hT0, bigT_mk hs (by omega) hk]
    obtain ⟨L, hL⟩ : ∃ L : Int, L = T.length := ⟨_, rfl⟩
    refine obP.mk (by subst hA hS; exact ⟨hs, by omega⟩) (obP.mk (by (try simp only [nc] at *); subst hA hS; simp (disch := (refine KR.mk ?_; kernel_rfl)) only [alg, obP_iff, condP_iff, retP_iff, retM_iff, ofNat_cast, nc, Int.toNat_natCast, decide_eq_true_eq, decide_eq_false_iff_not, wrap_w64, Bool.not_eq_true', Bool.not_eq_false', beq_iff_eq, beq_eq_false_iff_ne, AV.bool.injEq, AV.int.injEq, AV.t2.injEq, AV.t3.injEq, AV.own.injEq, List.cons.injEq, Prod.mk.injEq, Row.ints.injEq, RW, Row.nlen, scalar, imp_self, and_true, true_and, lexT, heldT, tailT, planT, nb, Int.toNat_zero, List.getD_cons_zero, List.getD_cons_succ, List.set_cons_zero, List.set_cons_succ, sp4, sp3, sp2, sp, sb]; rw [bigT_len]; omega) ?_)
    refine loop2 (fun (k : Nat) (out : List Int) => ⟨fr 42 [(6, .own 2 true), (23, .ro (.ints .i64 T)), (24, .int .i64 L), (25, .int .i64 k)], [.dead, .dead, .row 3 (.ints .i64 out)]⟩)
      (fun k out => k ≤ n.toNat + 1 ∧ out = upL l (k - 1)) (fun k _ => n.toNat + 1 - k) 0 [] ?_ ?_ ?_
    · subst hA hS; simp [Wk_iff, fr, undefs, wkT, wkV, wkH, okid, Row.nlen, getO, alg, sp4, sp3, sp2, hT0, hL]
    · exact ⟨by omega, rfl⟩
    · intro k out hR
      have k1 := hR.1
      have k2 := hR.2
      clear hR
      have hol := upL_len l (k - 1)
      rw [← k2] at hol
      have hst : 0 < k → upL l k = if mis l k then upL l (k - 1) else upL l (k - 1) ++ [(k : Int)] := by
        intro hk
        obtain ⟨j, rfl⟩ : ∃ j, k = j + 1 := ⟨k - 1, by omega⟩
        rfl
      cbv
      (try simp only [nc] at *); subst hA hS hr hfr; simp (disch := (refine KR.mk ?_; kernel_rfl)) only [alg, obP_iff, condP_iff, retP_iff, retM_iff, ofNat_cast, nc, Int.toNat_natCast, decide_eq_true_eq, decide_eq_false_iff_not, wrap_w64, Bool.not_eq_true', Bool.not_eq_false', beq_iff_eq, beq_eq_false_iff_ne, AV.bool.injEq, AV.int.injEq, AV.t2.injEq, AV.t3.injEq, AV.own.injEq, List.cons.injEq, Prod.mk.injEq, Row.ints.injEq, RW, Row.nlen, scalar, imp_self, and_true, true_and, lexT, heldT, tailT, planT, nb, Int.toNat_zero, List.getD_cons_zero, List.getD_cons_succ, List.set_cons_zero, List.set_cons_succ, sp4, sp3, sp2, sp, sb]
      have w1 : w64 ((k : Int) + 1) = ((k + 1 : Nat) : Int) := by rw [w64_id (by omega)]; omega
      try simp only [w1]
      have hft := fun (h : k ≤ n.toNat) => mkL_fit hs (k := k) (by omega)
      have hT := fun (h : k ≤ n.toNat) => hTg k h
      refine ⟨fun hk => ⟨by omega, fun hv => ⟨by omega, by simp, k + 1, out ++ [(k : Int)], ?_, ⟨by omega, ?_⟩, by omega⟩, fun hv => ⟨k + 1, out, ?_, ⟨by omega, ?_⟩, by omega⟩⟩, fun hk => ?_⟩
      · simp [Wk_iff, fr, undefs, wkT, wkV, wkH, okid, Row.nlen, getO]
      · simp only [Bool.and_eq_true, decide_eq_true_eq] at hv
        have h1 := hft (by omega)
        rw [hT (by omega), big_lt (by omega)] at hv
        rw [show k + 1 - 1 = k by omega, hst (by omega), mis, decide_eq_false (by omega), k2]; rfl
      · simp [Wk_iff, fr, undefs, wkT, wkV, wkH, okid, Row.nlen, getO]
      · rw [show k + 1 - 1 = k by omega]
        rcases Nat.eq_zero_or_pos k with h0 | h0
        · rw [k2, h0]
        · have h1 := hft (by omega)
          rw [decide_eq_true (show 0 < (k : Int) by omega), Bool.true_and, decide_eq_false_iff_not, hT (by omega), big_lt (by omega)] at hv
          rw [hst h0, mis, decide_eq_true (by omega), k2]; rfl
      · have : k = n.toNat + 1 := by omega
        rw [hf2, luL, if_pos hf2, k2, this]
        simp
def M2 (S : Sp4) : List (Nat × (List AV → CR)) :=
  (32, fun args => match args with | [.ro (.recs 2 l), .int .i64 n] => .pure (S.lm l) (.t2 (.int .i64 (S.mfV l n)) (.bool (S.mfB l n))) [] | _ => .no) ::
  (31, fun args => match args with | [.ro (.recs 2 l), .int .i64 n] => .pure (S.lm l) (.t2 (.int .i64 (S.mfV l n)) (.bool (S.mfB l n))) [] | _ => .no) ::
  (37, fun args => match args with | [.ro (.recs 2 l), .int .i64 n] => .pure (S.lm l) (.t2 (.own 0 true) (.bool (S.luB l n))) [(3, .ints .i64 (S.luL l n))] | _ => .no) ::
  (36, fun args => match args with | [.ro (.recs 2 l), .int .i64 n] => .pure (S.lm l) (.t2 (.own 0 true) (.bool (S.luB l n))) [(3, .ints .i64 (S.luL l n))] | _ => .no) ::
  M1 S
set_option maxRecDepth 100000 in
theorem M2_ok : TabOK Try.prog (tfind (M2 sp4)) := by
  refine tab_cons (fun args => ?_) (tab_cons (fun args => ?_) (tab_cons (fun args => ?_) (tab_cons (fun args => ?_) (M1_ok))))
  · split
    · exact ent_pure fun h => implMF_ok _ _ h
    · exact ent_no
  · split
    · exact ent_pure fun h => specMF_ok _ _ h
    · exact ent_no
  · split
    · exact ent_pure fun h => implLU_ok _ _ h
    · exact ent_no
  · split
    · exact ent_pure fun h => specLU_ok _ _ h
    · exact ent_no
theorem luL_len (l : List (List Int)) (n : Int) : (luL l n).length ≤ 400 := by
  unfold luL; split
  · rename_i h
    have := inR_iff.1 (Bool.and_eq_true_iff.1 h).2
    have := upL_len l n.toNat
    omega
  · simp
set_option maxRecDepth 100000 in
theorem lawMissingFor (l : List (List Int)) (n : Int) (h2 : rec2 l) (hmx : l.length ≤ 9223372036854775807) : FC Try.prog 8 [.ro (.recs 2 l), .int .i64 n] (.bool true) [] := by
  refine fc_eval sp4 M2 M2_ok hT hm Try.func8 rfl (by kernel_rfl) rfl rfl ?_
  intro A S r0 fr0 hA hS hr hfr
  cbv
  (try simp only [nc] at *); subst hA hS hr hfr; simp (disch := (refine KR.mk ?_; kernel_rfl)) only [alg, obP_iff, condP_iff, retP_iff, retM_iff, ofNat_cast, nc, Int.toNat_natCast, decide_eq_true_eq, decide_eq_false_iff_not, wrap_w64, Bool.not_eq_true', Bool.not_eq_false', beq_iff_eq, beq_eq_false_iff_ne, AV.bool.injEq, AV.int.injEq, AV.t2.injEq, AV.t3.injEq, AV.own.injEq, List.cons.injEq, Prod.mk.injEq, Row.ints.injEq, RW, Row.nlen, scalar, imp_self, and_true, true_and, lexT, heldT, tailT, planT, nb, Int.toNat_zero, List.getD_cons_zero, List.getD_cons_succ, List.set_cons_zero, List.set_cons_succ, sp4, sp3, sp2, sp, sb, eqL, eqRL]
  refine ⟨fun _ => trivial, fun hs => ?_⟩
  have hl := sz_pos hmx hs
  simp [h2, hl]
set_option maxRecDepth 100000 in
theorem lawLengthsUpTo (l : List (List Int)) (n : Int) (h2 : rec2 l) (hmx : l.length ≤ 9223372036854775807) : FC Try.prog 10 [.ro (.recs 2 l), .int .i64 n] (.bool true) [] := by
  refine fc_eval sp4 M2 M2_ok hT hm Try.func10 rfl (by kernel_rfl) rfl rfl ?_
  intro A S r0 fr0 hA hS hr hfr
  cbv
  (try simp only [nc] at *); subst hA hS hr hfr; simp (disch := (refine KR.mk ?_; kernel_rfl)) only [alg, obP_iff, condP_iff, retP_iff, retM_iff, ofNat_cast, nc, Int.toNat_natCast, decide_eq_true_eq, decide_eq_false_iff_not, wrap_w64, Bool.not_eq_true', Bool.not_eq_false', beq_iff_eq, beq_eq_false_iff_ne, AV.bool.injEq, AV.int.injEq, AV.t2.injEq, AV.t3.injEq, AV.own.injEq, List.cons.injEq, Prod.mk.injEq, Row.ints.injEq, RW, Row.nlen, scalar, imp_self, and_true, true_and, lexT, heldT, tailT, planT, nb, Int.toNat_zero, List.getD_cons_zero, List.getD_cons_succ, List.set_cons_zero, List.set_cons_succ, sp4, sp3, sp2, sp, sb, eqL, eqRL]
  have hq := luL_len l n
  refine ⟨fun _ => trivial, fun hs => ?_⟩
  have hl := sz_pos hmx hs
  simp [h2, hl, upR_len, upR_rec, upFrom_len, heldR_up, heldL_up]
  try omega
end Go.Proofs.Ytbnnpcfagkdobaa
