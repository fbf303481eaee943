/-
  Spaces: from a stock.
-/
import Derived.Test.YtjkkjfnkcfaigaaS3
import Derived.Test.YtjkkjfnkcfaigaaSK
import Derived.Test.YtjkkjfnkcfaigaaAb22
set_option linter.unusedSimpArgs false
set_option linter.unusedVariables false
namespace Go.Proofs.Ytjkkjfnkcfaigaa
open Go.Ab

def cntB (l c : List Int) : Bool := allR c 0 400 && (spB l && ((c.length : Int) == (l.length : Int)))
def ffB (l c : List Int) (n : Int) : Bool := askB l n && cntB l c && hasB l c n.toNat
def ffL (l c : List Int) (n : Int) : List Int := if ffB l c n then fsL l c n.toNat else []
def wkL (l c : List Int) (n : Nat) : List Int := if hasB l c n then fsL l c n else []
def minI (a b : Int) : Int := if b < a then b else a
structure Sp4 extends Sp2 where
  minI : Int → Int → Int
  cntB : List Int → List Int → Bool
  lenB : List Int → List Int → Bool
  hasW : List Int → List Int → Int → Bool
  wkL : List Int → List Int → Int → List Int
  ffB : List Int → List Int → Int → Bool
  ffL : List Int → List Int → Int → List Int
def sp4 : Sp4 := { sp2 with minI := minI, cntB := cntB, lenB := fun l c => ((c.length : Int) == (l.length : Int)) && allR c 0 400, hasW := fun l c n => hasB l c n.toNat, wkL := fun l c n => wkL l c n.toNat, ffB := ffB, ffL := ffL }
theorem cnt_ok (l c : List Int) (hl : l.length ≤ 1048576) (hc : c.length ≤ 1048576) : FC Try.prog 42 [.ro (.ints .i64 l), .ro (.ints .i64 c)] (.bool (cntB l c)) [] := by
  refine fc_eval sp2 V1 V1_ok hT hm Try.func42 rfl (by kernel_rfl) rfl rfl ?_
  intro A S r0 fr0 hA hS hr hfr
  cbv
  obtain ⟨L, hL⟩ : ∃ L : Int, L = c.length := ⟨_, rfl⟩
  refine loop1 (fun (i : Nat) => ⟨fr 26 [(0, .ro (.ints .i64 l)), (1, .ro (.ints .i64 c)), (7, .ro (.ints .i64 c)), (8, .int .i64 L), (9, .int .i64 i)], [.dead]⟩)
    (fun i => i ≤ c.length ∧ allR c 0 400 = allR (c.drop i) 0 400) (fun i => c.length - i) 0 ?_ ?_ ?_
  · subst hA; simp [Wk_iff, fr, undefs, wkT, wkV, wkH, okid, Row.nlen, w64_eq, getO, alg, hL]
  · simp
  · rintro i ⟨h1, h2⟩
    cbv
    (try simp only [nc] at *); subst hA hS hr hfr; simp (disch := (refine KR.mk ?_; kernel_rfl)) only [alg, obP_iff, condP_iff, retP_iff, retM_iff, ofNat_cast, nc, Int.toNat_natCast, decide_eq_true_eq, decide_eq_false_iff_not, wrap_w64, Bool.not_eq_true', Bool.not_eq_false', beq_iff_eq, beq_eq_false_iff_ne, AV.bool.injEq, AV.int.injEq, AV.t2.injEq, AV.t3.injEq, AV.own.injEq, List.cons.injEq, Prod.mk.injEq, Row.ints.injEq, RW, Row.nlen, scalar, imp_self, and_true, true_and, lexT, heldT, tailT, planT, nb, Int.toNat_zero, List.getD_cons_zero, List.getD_cons_succ, List.set_cons_zero, List.set_cons_succ, sp2, sp, sb]
    refine ⟨fun hi => ⟨by omega, fun hn => ?_, fun hn => ⟨i + 1, ?_, ⟨by omega, ?_⟩, by omega⟩⟩, fun hi => ⟨hl, ?_⟩⟩
    · rw [cntB, h2, allR_drop _ _ _ _ (by omega), hn]; rfl
    · simp [Wk_iff, fr, undefs, wkT, wkV, wkH, okid, Row.nlen, w64_eq, getO]; try omega
    · rw [h2, allR_drop _ _ _ _ (by omega), hn]; rfl
    · rw [cntB, h2, allR_end _ _ _ _ (by omega)]; rfl
theorem wsCnt_ok (l c : List Int) (hl : l.length ≤ 1048576) (hc : c.length ≤ 1048576) : FC Try.prog 40 [.ro (.ints .i64 l), .ro (.ints .i64 c)] (.bool (((c.length : Int) == (l.length : Int)) && allR c 0 400)) [] := by
  refine fc_eval sp2 V1 V1_ok hT hm Try.func40 rfl (by kernel_rfl) rfl rfl ?_
  intro A S r0 fr0 hA hS hr hfr
  cbv
  (try simp only [nc] at *); subst hA hS hr hfr; simp (disch := (refine KR.mk ?_; kernel_rfl)) only [alg, obP_iff, condP_iff, retP_iff, retM_iff, ofNat_cast, nc, Int.toNat_natCast, decide_eq_true_eq, decide_eq_false_iff_not, wrap_w64, Bool.not_eq_true', Bool.not_eq_false', beq_iff_eq, beq_eq_false_iff_ne, AV.bool.injEq, AV.int.injEq, AV.t2.injEq, AV.t3.injEq, AV.own.injEq, List.cons.injEq, Prod.mk.injEq, Row.ints.injEq, RW, Row.nlen, scalar, imp_self, and_true, true_and, lexT, heldT, tailT, planT, nb, Int.toNat_zero, List.getD_cons_zero, List.getD_cons_succ, List.set_cons_zero, List.set_cons_succ, sp2, sp, sb]
  try simp [hc]
theorem least_ok (a b : Int) : FC Try.prog 46 [.int .i64 a, .int .i64 b] (.int .i64 (minI a b)) [] := by
  refine fc_eval sp2 V1 V1_ok hT hm Try.func46 rfl (by kernel_rfl) rfl rfl ?_
  intro A S r0 fr0 hA hS hr hfr
  cbv
  (try simp only [nc] at *); subst hA hS hr hfr; simp (disch := (refine KR.mk ?_; kernel_rfl)) only [alg, obP_iff, condP_iff, retP_iff, retM_iff, ofNat_cast, nc, Int.toNat_natCast, decide_eq_true_eq, decide_eq_false_iff_not, wrap_w64, Bool.not_eq_true', Bool.not_eq_false', beq_iff_eq, beq_eq_false_iff_ne, AV.bool.injEq, AV.int.injEq, AV.t2.injEq, AV.t3.injEq, AV.own.injEq, List.cons.injEq, Prod.mk.injEq, Row.ints.injEq, RW, Row.nlen, scalar, imp_self, and_true, true_and, lexT, heldT, tailT, planT, nb, Int.toNat_zero, List.getD_cons_zero, List.getD_cons_succ, List.set_cons_zero, List.set_cons_succ, sp2, sp, sb, minI]
  refine ⟨fun h => ?_, fun h => ?_⟩ <;> split <;> omega
def V3 (S : Sp4) : List (Nat × (List AV → CR)) :=
  (46, fun args => match args with | [.int .i64 a, .int .i64 b] => .pure (True) (.int .i64 (S.minI a b)) [] | _ => .no) ::
  (42, fun args => match args with | [.ro (.ints .i64 l), .ro (.ints .i64 c)] => .pure (S.sm l ∧ S.sm c) (.bool (S.cntB l c)) [] | _ => .no) ::
  (40, fun args => match args with | [.ro (.ints .i64 l), .ro (.ints .i64 c)] => .pure (S.sm l ∧ S.sm c) (.bool (S.lenB l c)) [] | _ => .no) ::
  V1 S.toSp2
set_option maxRecDepth 100000 in
theorem V3_ok : TabOK Try.prog (tfind (V3 sp4)) := by
  refine tab_cons (fun args => ?_) (tab_cons (fun args => ?_) (tab_cons (fun args => ?_) (V1_ok)))
  · split
    · exact ent_pure fun _ => least_ok _ _
    · exact ent_no
  · split
    · exact ent_pure fun h => cnt_ok _ _ h.1 h.2
    · exact ent_no
  · split
    · exact ent_pure fun h => wsCnt_ok _ _ h.1 h.2
    · exact ent_no
theorem ff_dp {l c : List Int} {n : Int} (h1 : askB l n = true) (h2 : cntB l c = true) : dpP l c n := by
  have hok := ask_ok h1
  simp only [cntB, Bool.and_eq_true, beq_iff_eq] at h2
  have e : c.length = l.length := by omega
  exact ⟨hok.hl, e, hok.hw, fun i hi => allR_get h2.1 (by omega), hok.hn⟩
set_option maxHeartbeats 2000000 in
set_option maxRecDepth 100000 in
theorem implFF_ok (l c : List Int) (n : Int) (hl : l.length ≤ 1048576) (hcl : c.length ≤ 1048576) : FC Try.prog 30 [.ro (.ints .i64 l), .ro (.ints .i64 c), .int .i64 n] (.t2 (.own 0 true) (.bool (ffB l c n))) [(3, .ints .i64 (ffL l c n))] := by
  refine fc_eval sp4 V3 V3_ok hT hm Try.func30 rfl (by kernel_rfl) rfl rfl ?_
  intro A S r0 fr0 hA hS hr hfr
  cbv
  refine obP.mk (by subst hA hS; exact hl) (obP.mk (by subst hA hS; exact fun h => h) (obP.mk (by subst hA hS; exact fun h => h) (obP.mk (by subst hA hS; exact fun _ => ⟨hl, hcl⟩) (obP.mk (by subst hA hS; exact fun h => h) (obP.mk (by subst hA hS; exact fun h => h) (condP.mk (fun hg => ?_) (fun hg => ?_)))))))
  · have hf : (!(askB l n) || !(cntB l c)) = true := by subst hA hS; exact hg
    rw [nb, Bool.not_eq_true'] at hf
    have hfe : ffB l c n = false := by rw [ffB, hf]; rfl
    (try simp only [nc] at *); subst hA hS hr hfr; simp (disch := (refine KR.mk ?_; kernel_rfl)) only [alg, obP_iff, condP_iff, retP_iff, retM_iff, ofNat_cast, nc, Int.toNat_natCast, decide_eq_true_eq, decide_eq_false_iff_not, wrap_w64, Bool.not_eq_true', Bool.not_eq_false', beq_iff_eq, beq_eq_false_iff_ne, AV.bool.injEq, AV.int.injEq, AV.t2.injEq, AV.t3.injEq, AV.own.injEq, List.cons.injEq, Prod.mk.injEq, Row.ints.injEq, RW, Row.nlen, scalar, imp_self, and_true, true_and, lexT, heldT, tailT, planT, nb, Int.toNat_zero, List.getD_cons_zero, List.getD_cons_succ, List.set_cons_zero, List.set_cons_succ, sp4, sp2, sp, sb]
    simp [ffL, hfe]
  · have hf : (!(askB l n) || !(cntB l c)) = false := by subst hA hS; exact hg
    rw [nb, Bool.not_eq_false'] at hf
    have hf2 := Bool.and_eq_true_iff.1 hf
    have h := ff_dp hf2.1 hf2.2
    have hl8 := h.l
    have hnb := h.n
    have hsl := h.sl
    obtain ⟨tb, htb⟩ : ∃ tb, tb = S.tabF l c n := ⟨_, rfl⟩
    obtain ⟨N, hN⟩ : ∃ N, N = n.toNat := ⟨_, rfl⟩
    have htb' : tb = tabF l c N := by rw [htb, hS, hN]; rfl
    have htl : tb.length = l.length + 1 := by rw [htb', tabF_len]
    have htg : ∀ i, i ≤ l.length → tb.getD i [] = rowF l c N i := fun i hi => by rw [htb', tabF_get _ _ _ _ hi]
    refine obP.mk (by subst hA hS; exact h) (obP.mk (by (try simp only [nc] at *); subst hA hS; simp (disch := (refine KR.mk ?_; kernel_rfl)) only [alg, obP_iff, condP_iff, retP_iff, retM_iff, ofNat_cast, nc, Int.toNat_natCast, decide_eq_true_eq, decide_eq_false_iff_not, wrap_w64, Bool.not_eq_true', Bool.not_eq_false', beq_iff_eq, beq_eq_false_iff_ne, AV.bool.injEq, AV.int.injEq, AV.t2.injEq, AV.t3.injEq, AV.own.injEq, List.cons.injEq, Prod.mk.injEq, Row.ints.injEq, RW, Row.nlen, scalar, imp_self, and_true, true_and, lexT, heldT, tailT, planT, nb, Int.toNat_zero, List.getD_cons_zero, List.getD_cons_succ, List.set_cons_zero, List.set_cons_succ, sp4, sp2, sp, sb]; rw [tabF_len]; omega) (obP.mk (by (try simp only [nc] at *); subst hA hS; simp (disch := (refine KR.mk ?_; kernel_rfl)) only [alg, obP_iff, condP_iff, retP_iff, retM_iff, ofNat_cast, nc, Int.toNat_natCast, decide_eq_true_eq, decide_eq_false_iff_not, wrap_w64, Bool.not_eq_true', Bool.not_eq_false', beq_iff_eq, beq_eq_false_iff_ne, AV.bool.injEq, AV.int.injEq, AV.t2.injEq, AV.t3.injEq, AV.own.injEq, List.cons.injEq, Prod.mk.injEq, Row.ints.injEq, RW, Row.nlen, scalar, imp_self, and_true, true_and, lexT, heldT, tailT, planT, nb, Int.toNat_zero, List.getD_cons_zero, List.getD_cons_succ, List.set_cons_zero, List.set_cons_succ, sp4, sp2, sp, sb]; rw [tabF_get _ _ _ _ (by omega), rowF_len]; omega) (condP.mk (fun hc => ?_) (fun hc => ?_))))
    · have hb : hasB l c N = false := by
        (try simp only [nc] at *); (try subst hA); (try subst hS); simp (disch := (refine KR.mk ?_; kernel_rfl)) only [alg, obP_iff, condP_iff, retP_iff, retM_iff, ofNat_cast, nc, Int.toNat_natCast, decide_eq_true_eq, decide_eq_false_iff_not, wrap_w64, Bool.not_eq_true', Bool.not_eq_false', beq_iff_eq, beq_eq_false_iff_ne, AV.bool.injEq, AV.int.injEq, AV.t2.injEq, AV.t3.injEq, AV.own.injEq, List.cons.injEq, Prod.mk.injEq, Row.ints.injEq, RW, Row.nlen, scalar, imp_self, and_true, true_and, lexT, heldT, tailT, planT, nb, Int.toNat_zero, List.getD_cons_zero, List.getD_cons_succ, List.set_cons_zero, List.set_cons_succ, sp4, sp2, sp, sb] at hc
        rw [tabF_get _ _ _ _ (by omega), ← hN] at hc
        rw [hasB, decide_eq_false_iff_not]; omega
      have hfe : ffB l c n = false := by rw [ffB, ← hN, hb, Bool.and_false]
      (try simp only [nc] at *); subst hA hS hr hfr; simp (disch := (refine KR.mk ?_; kernel_rfl)) only [alg, obP_iff, condP_iff, retP_iff, retM_iff, ofNat_cast, nc, Int.toNat_natCast, decide_eq_true_eq, decide_eq_false_iff_not, wrap_w64, Bool.not_eq_true', Bool.not_eq_false', beq_iff_eq, beq_eq_false_iff_ne, AV.bool.injEq, AV.int.injEq, AV.t2.injEq, AV.t3.injEq, AV.own.injEq, List.cons.injEq, Prod.mk.injEq, Row.ints.injEq, RW, Row.nlen, scalar, imp_self, and_true, true_and, lexT, heldT, tailT, planT, nb, Int.toNat_zero, List.getD_cons_zero, List.getD_cons_succ, List.set_cons_zero, List.set_cons_succ, sp4, sp2, sp, sb]
      simp [ffL, hfe]
    · have hb' : 0 ≤ (rowF l c N l.length).getD N 0 := by
        (try simp only [nc] at *); (try subst hA); (try subst hS); simp (disch := (refine KR.mk ?_; kernel_rfl)) only [alg, obP_iff, condP_iff, retP_iff, retM_iff, ofNat_cast, nc, Int.toNat_natCast, decide_eq_true_eq, decide_eq_false_iff_not, wrap_w64, Bool.not_eq_true', Bool.not_eq_false', beq_iff_eq, beq_eq_false_iff_ne, AV.bool.injEq, AV.int.injEq, AV.t2.injEq, AV.t3.injEq, AV.own.injEq, List.cons.injEq, Prod.mk.injEq, Row.ints.injEq, RW, Row.nlen, scalar, imp_self, and_true, true_and, lexT, heldT, tailT, planT, nb, Int.toNat_zero, List.getD_cons_zero, List.getD_cons_succ, List.set_cons_zero, List.set_cons_succ, sp4, sp2, sp, sb] at hc
        rw [tabF_get _ _ _ _ (by omega), ← hN] at hc
        omega
      have hb : hasB l c N = true := decide_eq_true hb'
      have hfe : ffB l c n = true := by rw [ffB, ← hN, hf, hb]; rfl
      have hfl : ffL l c n = fsL l c N := by rw [ffL, if_pos hfe, ← hN]
      refine obP.mk (by (try simp only [nc] at *); subst hA hS; simp (disch := (refine KR.mk ?_; kernel_rfl)) only [alg, obP_iff, condP_iff, retP_iff, retM_iff, ofNat_cast, nc, Int.toNat_natCast, decide_eq_true_eq, decide_eq_false_iff_not, wrap_w64, Bool.not_eq_true', Bool.not_eq_false', beq_iff_eq, beq_eq_false_iff_ne, AV.bool.injEq, AV.int.injEq, AV.t2.injEq, AV.t3.injEq, AV.own.injEq, List.cons.injEq, Prod.mk.injEq, Row.ints.injEq, RW, Row.nlen, scalar, imp_self, and_true, true_and, lexT, heldT, tailT, planT, nb, Int.toNat_zero, List.getD_cons_zero, List.getD_cons_succ, List.set_cons_zero, List.set_cons_succ, sp4, sp2, sp, sb]; omega) (obP.mk (by (try simp only [nc] at *); subst hA hS; simp (disch := (refine KR.mk ?_; kernel_rfl)) only [alg, obP_iff, condP_iff, retP_iff, retM_iff, ofNat_cast, nc, Int.toNat_natCast, decide_eq_true_eq, decide_eq_false_iff_not, wrap_w64, Bool.not_eq_true', Bool.not_eq_false', beq_iff_eq, beq_eq_false_iff_ne, AV.bool.injEq, AV.int.injEq, AV.t2.injEq, AV.t3.injEq, AV.own.injEq, List.cons.injEq, Prod.mk.injEq, Row.ints.injEq, RW, Row.nlen, scalar, imp_self, and_true, true_and, lexT, heldT, tailT, planT, nb, Int.toNat_zero, List.getD_cons_zero, List.getD_cons_succ, List.set_cons_zero, List.set_cons_succ, sp4, sp2, sp, sb]) ?_)
      refine loop4 (fun (i : Nat) (d k : Int) (out : List Int) => ⟨fr 88 [(0, .ro (.ints .i64 l)), (1, .ro (.ints .i64 c)), (2, .int .i64 k), (8, .own 1 true), (9, .own 2 false), (10, .int .i64 d)], [.dead, .row 22 (.intss tb), .row 3 (.ints .i64 out)]⟩)
        (fun i d k out => i ≤ l.length ∧ d = (i : Int) - 1 ∧ (0 ≤ k ∧ k ≤ N) ∧ 0 ≤ (rowF l c N i).getD k.toNat 0 ∧ ∃ suf, suf.length = l.length - i ∧ fsL l c N = bq l c N i k.toNat ++ suf ∧ out = List.replicate i 0 ++ suf)
        (fun i _ _ _ => i) l.length ((l.length : Int) - 1) n (List.replicate l.length 0) ?_ ?_ ?_
      · (try simp only [nc] at *); subst hA hS; simp (disch := (refine KR.mk ?_; kernel_rfl)) only [alg, obP_iff, condP_iff, retP_iff, retM_iff, ofNat_cast, nc, Int.toNat_natCast, decide_eq_true_eq, decide_eq_false_iff_not, wrap_w64, Bool.not_eq_true', Bool.not_eq_false', beq_iff_eq, beq_eq_false_iff_ne, AV.bool.injEq, AV.int.injEq, AV.t2.injEq, AV.t3.injEq, AV.own.injEq, List.cons.injEq, Prod.mk.injEq, Row.ints.injEq, RW, Row.nlen, scalar, imp_self, and_true, true_and, lexT, heldT, tailT, planT, nb, Int.toNat_zero, List.getD_cons_zero, List.getD_cons_succ, List.set_cons_zero, List.set_cons_succ, sp4, sp2, sp, sb]
        have w1 : w64 ((l.length : Int) - 1) = (l.length : Int) - 1 := w64_id (by omega)
        simp only [w1, Int.toNat_natCast]
        rw [htb', hN]
        simp [Wk_iff, fr, undefs, wkT, wkV, wkH, okid, Row.nlen, getO]
      · refine ⟨by omega, rfl, by omega, ?_, [], by simp, ?_, by simp⟩
        · rw [← hN]; exact hb'
        · rw [← hN]; simp [fsL]
      · intro i d k0 out hR
        have i1 := hR.1
        have hci := hR.2.1
        have hk0 := hR.2.2.1
        have hpos := hR.2.2.2.1
        obtain ⟨suf, hsuf⟩ := hR.2.2.2.2
        have hsf := hsuf.1
        have hbest := hsuf.2.1
        have ho := hsuf.2.2
        clear hR hsuf
        obtain ⟨k, hkk⟩ := Int.eq_ofNat_of_zero_le hk0.1
        rw [hkk, Int.toNat_natCast] at hpos hbest
        have hk : k ≤ N := by omega
        rw [hkk]
        clear hk0 hkk
        have HK := Hd.mk hk
        have hol : out.length = l.length := by rw [ho]; simp [hsf]; omega
        have HC := Hd.mk hci
        clear hci
        cbv
        have hci := HC.h
        (try simp only [nc] at hci)
        refine condP.mk (fun hc2 => ?_) (fun hc2 => ?_)
        · have h0 : 0 ≤ d := by
            (try simp only [nc] at *); (try subst hA); (try subst hS); simp (disch := (refine KR.mk ?_; kernel_rfl)) only [alg, obP_iff, condP_iff, retP_iff, retM_iff, ofNat_cast, nc, Int.toNat_natCast, decide_eq_true_eq, decide_eq_false_iff_not, wrap_w64, Bool.not_eq_true', Bool.not_eq_false', beq_iff_eq, beq_eq_false_iff_ne, AV.bool.injEq, AV.int.injEq, AV.t2.injEq, AV.t3.injEq, AV.own.injEq, List.cons.injEq, Prod.mk.injEq, Row.ints.injEq, RW, Row.nlen, scalar, imp_self, and_true, true_and, lexT, heldT, tailT, planT, nb, Int.toNat_zero, List.getD_cons_zero, List.getD_cons_succ, List.set_cons_zero, List.set_cons_succ, sp4, sp2, sp, sb] at hc2
            exact hc2
          have hk := HK.h
          obtain ⟨j, hj⟩ : ∃ j, i = j + 1 := ⟨i - 1, by omega⟩
          rw [hj] at hpos hbest hsf
          have hcj : d.toNat = j := by omega
          have hjl : j < l.length := by omega
          have hwb := h.w j hjl
          have hsb := h.s j hjl
          obtain ⟨w, hw⟩ : ∃ w, w = l.getD j 0 := ⟨_, rfl⟩
          obtain ⟨q, hq⟩ : ∃ q, q = c.getD j 0 := ⟨_, rfl⟩
          obtain ⟨W, hW⟩ : ∃ W, W = w.toNat := ⟨_, rfl⟩
          obtain ⟨Q, hQ⟩ : ∃ Q, Q = q.toNat := ⟨_, rfl⟩
          rw [← hw] at hwb
          rw [← hq] at hsb
          have hwW : w = W := by omega
          have hqQ : q = Q := by omega
          obtain ⟨g, hgd⟩ : ∃ g, g = gs l c N j k := ⟨_, rfl⟩
          have hpk : ps l c N j k = dn g (mst W Q k) := by rw [ps, hgd, ← hw, ← hq, ← hW, ← hQ]
          have hex : ∃ x, x ≤ mst W Q k ∧ g x = true := by rw [hgd, hQ, hW, hq, hw]; exact gs_ex hk hpos
          have H1 := Hd.mk hwW
          have H2 := Hd.mk hqQ
          have H3 := Hd.mk hcj
          have H4 := Hd.mk hj
          refine obP.mk ⟨by kernel_rfl⟩ (obP.mk (by (try simp only [nc] at *); subst hA hS; simp (disch := (refine KR.mk ?_; kernel_rfl)) only [alg, obP_iff, condP_iff, retP_iff, retM_iff, ofNat_cast, nc, Int.toNat_natCast, decide_eq_true_eq, decide_eq_false_iff_not, wrap_w64, Bool.not_eq_true', Bool.not_eq_false', beq_iff_eq, beq_eq_false_iff_ne, AV.bool.injEq, AV.int.injEq, AV.t2.injEq, AV.t3.injEq, AV.own.injEq, List.cons.injEq, Prod.mk.injEq, Row.ints.injEq, RW, Row.nlen, scalar, imp_self, and_true, true_and, lexT, heldT, tailT, planT, nb, Int.toNat_zero, List.getD_cons_zero, List.getD_cons_succ, List.set_cons_zero, List.set_cons_succ, sp4, sp2, sp, sb]; omega) (obP.mk (by (try simp only [nc] at *); subst hA hS; simp (disch := (refine KR.mk ?_; kernel_rfl)) only [alg, obP_iff, condP_iff, retP_iff, retM_iff, ofNat_cast, nc, Int.toNat_natCast, decide_eq_true_eq, decide_eq_false_iff_not, wrap_w64, Bool.not_eq_true', Bool.not_eq_false', beq_iff_eq, beq_eq_false_iff_ne, AV.bool.injEq, AV.int.injEq, AV.t2.injEq, AV.t3.injEq, AV.own.injEq, List.cons.injEq, Prod.mk.injEq, Row.ints.injEq, RW, Row.nlen, scalar, imp_self, and_true, true_and, lexT, heldT, tailT, planT, nb, Int.toNat_zero, List.getD_cons_zero, List.getD_cons_succ, List.set_cons_zero, List.set_cons_succ, sp4, sp2, sp, sb]; omega) (obP.mk (by (try simp only [nc] at *); subst hA hS; simp (disch := (refine KR.mk ?_; kernel_rfl)) only [alg, obP_iff, condP_iff, retP_iff, retM_iff, ofNat_cast, nc, Int.toNat_natCast, decide_eq_true_eq, decide_eq_false_iff_not, wrap_w64, Bool.not_eq_true', Bool.not_eq_false', beq_iff_eq, beq_eq_false_iff_ne, AV.bool.injEq, AV.int.injEq, AV.t2.injEq, AV.t3.injEq, AV.own.injEq, List.cons.injEq, Prod.mk.injEq, Row.ints.injEq, RW, Row.nlen, scalar, imp_self, and_true, true_and, lexT, heldT, tailT, planT, nb, Int.toNat_zero, List.getD_cons_zero, List.getD_cons_succ, List.set_cons_zero, List.set_cons_succ, sp4, sp2, sp, sb]; rw [hcj, ← hw]; omega) ?_)))
          refine loop1 (fun (m : Nat) => ⟨fr 88 [(0, .ro (.ints .i64 l)), (1, .ro (.ints .i64 c)), (2, .int .i64 k), (8, .own 1 true), (9, .own 2 false), (10, .int .i64 d), (11, .int .i64 m)], [.dead, .row 22 (.intss tb), .row 3 (.ints .i64 out)]⟩)
            (fun m => m ≤ mst W Q k ∧ ps l c N j k = dn g m ∧ ∃ x, x ≤ m ∧ g x = true) (fun m => m) (mst W Q k) ?_ ?_ ?_
          · (try simp only [nc] at *); subst hA hS; simp (disch := (refine KR.mk ?_; kernel_rfl)) only [alg, obP_iff, condP_iff, retP_iff, retM_iff, ofNat_cast, nc, Int.toNat_natCast, decide_eq_true_eq, decide_eq_false_iff_not, wrap_w64, Bool.not_eq_true', Bool.not_eq_false', beq_iff_eq, beq_eq_false_iff_ne, AV.bool.injEq, AV.int.injEq, AV.t2.injEq, AV.t3.injEq, AV.own.injEq, List.cons.injEq, Prod.mk.injEq, Row.ints.injEq, RW, Row.nlen, scalar, imp_self, and_true, true_and, lexT, heldT, tailT, planT, nb, Int.toNat_zero, List.getD_cons_zero, List.getD_cons_succ, List.set_cons_zero, List.set_cons_succ, sp4, sp2, sp, sb]
            have := mn_mst q w W Q k hwW hqQ (by omega)
            simp only [hcj, ← hw, ← hq, this]
            simp [Wk_iff, fr, undefs, wkT, wkV, wkH, okid, Row.nlen, getO]
          · exact ⟨Nat.le_refl _, hpk, hex⟩
          · intro m hR
            have m1 := hR.1
            have m2 := hR.2.1
            have m3 := hR.2.2
            clear hR
            cbv
            (try simp only [nc] at *); subst hA hS hr hfr; simp (disch := (refine KR.mk ?_; kernel_rfl)) only [alg, obP_iff, condP_iff, retP_iff, retM_iff, ofNat_cast, nc, Int.toNat_natCast, decide_eq_true_eq, decide_eq_false_iff_not, wrap_w64, Bool.not_eq_true', Bool.not_eq_false', beq_iff_eq, beq_eq_false_iff_ne, AV.bool.injEq, AV.int.injEq, AV.t2.injEq, AV.t3.injEq, AV.own.injEq, List.cons.injEq, Prod.mk.injEq, Row.ints.injEq, RW, Row.nlen, scalar, imp_self, and_true, true_and, lexT, heldT, tailT, planT, nb, Int.toNat_zero, List.getD_cons_zero, List.getD_cons_succ, List.set_cons_zero, List.set_cons_succ, sp4, sp2, sp, sb]
            have hwW := H1.h
            have hqQ := H2.h
            have hcj := H3.h
            have hj := H4.h
            (try simp only [nc] at hwW hqQ hcj hj)
            obtain ⟨X, hX⟩ : ∃ X, X = m * W := ⟨_, rfl⟩
            have hXk : X ≤ k := by rw [hX]; exact ((mst_le (show 0 < W by omega)).1 m1).2
            have hmX : m ≤ X := by rw [hX]; exact Nat.le_mul_of_pos_right m (by omega)
            have hmw : (m : Int) * w = (X : Int) := by rw [hwW, hX]; simp
            have w1 : w64 ((m : Int) * w) = (X : Int) := by rw [hmw, w64_id (by omega)]
            have w2 : w64 ((k : Int) - (X : Int)) = ((k - X : Nat) : Int) := by rw [w64_id (by omega)]; omega
            have wc : w64 (d - 1) = d - 1 := w64_id (by omega)
            have t1 := htg j (by omega)
            obtain ⟨r, hr⟩ : ∃ r, r = (rowF l c N j).getD (k - X) 0 := ⟨_, rfl⟩
            simp only [hcj, ← hw, w1, w2, Int.toNat_natCast, t1, rowF_len, ← hr, wc]
            have hgm : g m = decide (0 ≤ r) := by rw [hgd, gs, ← hw, ← hW, ← hX, ← hr]
            refine ⟨by omega, by omega, by omega, fun hv => ?_, fun hv => ⟨by omega, by omega, j, d - 1, ((k - X : Nat) : Int), out.set j (m : Int), ?_, ⟨by omega, by omega, by omega, ?_, (m : Int) :: suf, by simp; omega, ?_, ?_⟩, by omega⟩⟩
            · have hf : g m = false := by rw [hgm]; exact decide_eq_false (by omega)
              obtain ⟨m', hm'⟩ : ∃ m', m = m' + 1 := by
                obtain ⟨x, hx, hgx⟩ := m3
                refine ⟨m - 1, ?_⟩
                rcases Nat.eq_zero_or_pos m with h0 | h0
                · have : x = m := by omega
                  rw [this, hf] at hgx; cases hgx
                · omega
              have w6 : w64 ((m : Int) - 1) = (m' : Int) := by rw [w64_id (by omega)]; omega
              refine ⟨m', ?_, ⟨by omega, by rw [m2, hm', dn_f (by rw [← hm']; exact hf)], ?_⟩, by omega⟩
              · simp only [w6]
                simp [Wk_iff, fr, undefs, wkT, wkV, wkH, okid, Row.nlen, getO]
              · obtain ⟨x, hx, hgx⟩ := m3
                refine ⟨x, ?_, hgx⟩
                rcases Nat.lt_or_ge m' x with h1 | h1
                · have : x = m := by omega
                  rw [this, hf] at hgx; cases hgx
                · exact h1
            · simp [Wk_iff, fr, undefs, wkT, wkV, wkH, okid, Row.nlen, getO]
            · rw [Int.toNat_natCast, ← hr]; omega
            · have ht : g m = true := by rw [hgm]; exact decide_eq_true (by omega)
              have hpm : ps l c N j k = m := by rw [m2, dn_t ht]
              rw [Int.toNat_natCast, hbest, bq, ls, hpm, ← hw, ← hW, ← hX]; simp
            · rw [ho, hj, ← d_rep_snoc, List.append_assoc, List.singleton_append, d_app_set _ _ _ _ _ (by simp)]
        · have h0 : ¬ 0 ≤ d := by
            (try simp only [nc] at *); (try subst hA); (try subst hS); simp (disch := (refine KR.mk ?_; kernel_rfl)) only [alg, obP_iff, condP_iff, retP_iff, retM_iff, ofNat_cast, nc, Int.toNat_natCast, decide_eq_true_eq, decide_eq_false_iff_not, wrap_w64, Bool.not_eq_true', Bool.not_eq_false', beq_iff_eq, beq_eq_false_iff_ne, AV.bool.injEq, AV.int.injEq, AV.t2.injEq, AV.t3.injEq, AV.own.injEq, List.cons.injEq, Prod.mk.injEq, Row.ints.injEq, RW, Row.nlen, scalar, imp_self, and_true, true_and, lexT, heldT, tailT, planT, nb, Int.toNat_zero, List.getD_cons_zero, List.getD_cons_succ, List.set_cons_zero, List.set_cons_succ, sp4, sp2, sp, sb] at hc2
            exact hc2
          have hi : i = 0 := by omega
          (try simp only [nc] at *); subst hA hS hr hfr; simp (disch := (refine KR.mk ?_; kernel_rfl)) only [alg, obP_iff, condP_iff, retP_iff, retM_iff, ofNat_cast, nc, Int.toNat_natCast, decide_eq_true_eq, decide_eq_false_iff_not, wrap_w64, Bool.not_eq_true', Bool.not_eq_false', beq_iff_eq, beq_eq_false_iff_ne, AV.bool.injEq, AV.int.injEq, AV.t2.injEq, AV.t3.injEq, AV.own.injEq, List.cons.injEq, Prod.mk.injEq, Row.ints.injEq, RW, Row.nlen, scalar, imp_self, and_true, true_and, lexT, heldT, tailT, planT, nb, Int.toNat_zero, List.getD_cons_zero, List.getD_cons_succ, List.set_cons_zero, List.set_cons_succ, sp4, sp2, sp, sb]
          rw [hfl, hfe, ho, hbest, hi]
          simp [bq]
set_option maxHeartbeats 2000000 in
set_option maxRecDepth 100000 in
theorem wsStock_ok (l c : List Int) (n : Int) (h : dpP l c n) : FC Try.prog 41 [.ro (.ints .i64 l), .ro (.ints .i64 c), .int .i64 n] (.t2 (.own 0 true) (.bool (hasB l c n.toNat))) [(3, .ints .i64 (wkL l c n.toNat))] := by
  refine fc_grid sp4 V3 V3_ok hT hm 3 Try.func41 rfl (by kernel_rfl) rfl rfl rfl ⟨rfl, rfl, rfl⟩ ⟨rfl, rfl, rfl⟩ rfl ⟨rfl, rfl, rfl⟩ ⟨rfl, rfl, rfl⟩ ⟨rfl, rfl, rfl⟩ ⟨rfl, rfl, rfl⟩ ⟨rfl, rfl, rfl⟩ rfl rfl ?_
  intro A S r0 fr0 hA hS hr hfr
  cbv
  have hl8 := h.l
  have hnb := h.n
  have hsl := h.sl
  obtain ⟨N, hN⟩ : ∃ N, N = n.toNat := ⟨_, rfl⟩
  have hnN : n = N := by omega
  have hw1 : ∀ i, i < l.length → 1 ≤ l.getD i 0 := fun i hi => (h.w i hi).1
  have wn : w64 (n + 1) = ((N + 1 : Nat) : Int) := by rw [w64_id (by omega)]; omega
  obtain ⟨L, hL⟩ : ∃ L : Int, L = l.length := ⟨_, rfl⟩
  refine obP.mk (by (try simp only [nc] at *); subst hA hS; simp (disch := (refine KR.mk ?_; kernel_rfl)) only [alg, obP_iff, condP_iff, retP_iff, retM_iff, ofNat_cast, nc, Int.toNat_natCast, decide_eq_true_eq, decide_eq_false_iff_not, wrap_w64, Bool.not_eq_true', Bool.not_eq_false', beq_iff_eq, beq_eq_false_iff_ne, AV.bool.injEq, AV.int.injEq, AV.t2.injEq, AV.t3.injEq, AV.own.injEq, List.cons.injEq, Prod.mk.injEq, Row.ints.injEq, RW, Row.nlen, scalar, imp_self, and_true, true_and, lexT, heldT, tailT, planT, nb, Int.toNat_zero, List.getD_cons_zero, List.getD_cons_succ, List.set_cons_zero, List.set_cons_succ, sp4, sp2, sp, sb]; omega) (obP.mk (by (try simp only [nc] at *); subst hA hS; simp (disch := (refine KR.mk ?_; kernel_rfl)) only [alg, obP_iff, condP_iff, retP_iff, retM_iff, ofNat_cast, nc, Int.toNat_natCast, decide_eq_true_eq, decide_eq_false_iff_not, wrap_w64, Bool.not_eq_true', Bool.not_eq_false', beq_iff_eq, beq_eq_false_iff_ne, AV.bool.injEq, AV.int.injEq, AV.t2.injEq, AV.t3.injEq, AV.own.injEq, List.cons.injEq, Prod.mk.injEq, Row.ints.injEq, RW, Row.nlen, scalar, imp_self, and_true, true_and, lexT, heldT, tailT, planT, nb, Int.toNat_zero, List.getD_cons_zero, List.getD_cons_succ, List.set_cons_zero, List.set_cons_succ, sp4, sp2, sp, sb]) (obP.mk (by (try simp only [nc] at *); subst hA hS; simp (disch := (refine KR.mk ?_; kernel_rfl)) only [alg, obP_iff, condP_iff, retP_iff, retM_iff, ofNat_cast, nc, Int.toNat_natCast, decide_eq_true_eq, decide_eq_false_iff_not, wrap_w64, Bool.not_eq_true', Bool.not_eq_false', beq_iff_eq, beq_eq_false_iff_ne, AV.bool.injEq, AV.int.injEq, AV.t2.injEq, AV.t3.injEq, AV.own.injEq, List.cons.injEq, Prod.mk.injEq, Row.ints.injEq, RW, Row.nlen, scalar, imp_self, and_true, true_and, lexT, heldT, tailT, planT, nb, Int.toNat_zero, List.getD_cons_zero, List.getD_cons_succ, List.set_cons_zero, List.set_cons_succ, sp4, sp2, sp, sb]; rw [wn]; first | omega | (simp; omega) | simp) ?_))
  refine loop2 (fun (i : Nat) (tb : List (List Bool)) => ⟨fr 140 [(0, .ro (.ints .i64 l)), (1, .ro (.ints .i64 c)), (2, .int .i64 n), (8, .own 2 true), (25, .ro (.ints .i64 l)), (26, .int .i64 L), (27, .int .i64 i)], [.dead, .dead, .row 42 (.boolss tb)]⟩)
    (fun i tb => i ≤ l.length ∧ tb = cbT l c N i) (fun i _ => l.length - i) 0 [true :: List.replicate N false] ?_ ?_ ?_
  · (try simp only [nc] at *); subst hA hS; simp (disch := (refine KR.mk ?_; kernel_rfl)) only [alg, obP_iff, condP_iff, retP_iff, retM_iff, ofNat_cast, nc, Int.toNat_natCast, decide_eq_true_eq, decide_eq_false_iff_not, wrap_w64, Bool.not_eq_true', Bool.not_eq_false', beq_iff_eq, beq_eq_false_iff_ne, AV.bool.injEq, AV.int.injEq, AV.t2.injEq, AV.t3.injEq, AV.own.injEq, List.cons.injEq, Prod.mk.injEq, Row.ints.injEq, RW, Row.nlen, scalar, imp_self, and_true, true_and, lexT, heldT, tailT, planT, nb, Int.toNat_zero, List.getD_cons_zero, List.getD_cons_succ, List.set_cons_zero, List.set_cons_succ, sp4, sp2, sp, sb]
    rw [wn, hL]
    simp [Wk_iff, fr, undefs, wkT, wkV, wkH, okid, Row.nlen, getO, List.replicate_succ]
  · exact ⟨by omega, by rw [← cb0 l c N]; rfl⟩
  · intro i tb hR
    have i1 := hR.1
    have htb := hR.2
    clear hR
    have htl : tb.length = i + 1 := by rw [htb, cbT_len]
    have htg : ∀ j, j ≤ i → tb.getD j [] = cb l c N j := fun j hj => by rw [htb, cbT_get _ _ _ _ _ hj]
    have HT := Hd.mk htb
    clear htb
    have HN := Hd.mk hnN
    cbv
    have hnN := HN.h
    (try simp only [nc] at hnN)
    refine condP.mk (fun hc => ?_) (fun hc => ?_)
    · have hi : i < l.length := by
        (try simp only [nc] at *); (try subst hA); (try subst hS); simp (disch := (refine KR.mk ?_; kernel_rfl)) only [alg, obP_iff, condP_iff, retP_iff, retM_iff, ofNat_cast, nc, Int.toNat_natCast, decide_eq_true_eq, decide_eq_false_iff_not, wrap_w64, Bool.not_eq_true', Bool.not_eq_false', beq_iff_eq, beq_eq_false_iff_ne, AV.bool.injEq, AV.int.injEq, AV.t2.injEq, AV.t3.injEq, AV.own.injEq, List.cons.injEq, Prod.mk.injEq, Row.ints.injEq, RW, Row.nlen, scalar, imp_self, and_true, true_and, lexT, heldT, tailT, planT, nb, Int.toNat_zero, List.getD_cons_zero, List.getD_cons_succ, List.set_cons_zero, List.set_cons_succ, sp4, sp2, sp, sb] at hc
        omega
      have hwb := h.w i hi
      have hsb := h.s i hi
      obtain ⟨w, hw⟩ : ∃ w, w = l.getD i 0 := ⟨_, rfl⟩
      obtain ⟨q, hq⟩ : ∃ q, q = c.getD i 0 := ⟨_, rfl⟩
      obtain ⟨W, hW⟩ : ∃ W, W = w.toNat := ⟨_, rfl⟩
      obtain ⟨Q, hQ⟩ : ∃ Q, Q = q.toNat := ⟨_, rfl⟩
      rw [← hw] at hwb
      rw [← hq] at hsb
      have hwW : w = W := by omega
      have hqQ : q = Q := by omega
      obtain ⟨p, hp⟩ : ∃ p, p = rowF l c N i := ⟨_, rfl⟩
      have hpl : p.length = N + 1 := by rw [hp, rowF_len]
      have hcg : ∀ y, y ≤ N → (tb.getD i []).getD y false = decide (0 ≤ p.getD y 0) := fun y hy => by rw [htg i (Nat.le_refl _), cb_get _ _ _ _ _ hy, hp]
      have htil : (tb.getD i []).length = N + 1 := by rw [htg i (Nat.le_refl _), cb_len]
      obtain ⟨C, hC⟩ : ∃ C, C = cb l c N (i + 1) := ⟨_, rfl⟩
      have hCl : C.length = N + 1 := by rw [hC, cb_len]
      have hCg : ∀ x, x ≤ N → C.getD x false = decide (0 ≤ cellF p W x (mst W Q x + 1)) := fun x hx => by
        rw [hC, cb_get _ _ _ _ _ hx, rowF_succ_get _ _ _ _ _ hx, ← hw, ← hq, ← hW, ← hQ, ← hp]; rfl
      have H1 := Hd.mk hwW
      have H2 := Hd.mk hqQ
      refine obP.mk (by (try simp only [nc] at *); subst hA hS; simp (disch := (refine KR.mk ?_; kernel_rfl)) only [alg, obP_iff, condP_iff, retP_iff, retM_iff, ofNat_cast, nc, Int.toNat_natCast, decide_eq_true_eq, decide_eq_false_iff_not, wrap_w64, Bool.not_eq_true', Bool.not_eq_false', beq_iff_eq, beq_eq_false_iff_ne, AV.bool.injEq, AV.int.injEq, AV.t2.injEq, AV.t3.injEq, AV.own.injEq, List.cons.injEq, Prod.mk.injEq, Row.ints.injEq, RW, Row.nlen, scalar, imp_self, and_true, true_and, lexT, heldT, tailT, planT, nb, Int.toNat_zero, List.getD_cons_zero, List.getD_cons_succ, List.set_cons_zero, List.set_cons_succ, sp4, sp2, sp, sb]; omega) (obP.mk (by (try simp only [nc] at *); subst hA hS; simp (disch := (refine KR.mk ?_; kernel_rfl)) only [alg, obP_iff, condP_iff, retP_iff, retM_iff, ofNat_cast, nc, Int.toNat_natCast, decide_eq_true_eq, decide_eq_false_iff_not, wrap_w64, Bool.not_eq_true', Bool.not_eq_false', beq_iff_eq, beq_eq_false_iff_ne, AV.bool.injEq, AV.int.injEq, AV.t2.injEq, AV.t3.injEq, AV.own.injEq, List.cons.injEq, Prod.mk.injEq, Row.ints.injEq, RW, Row.nlen, scalar, imp_self, and_true, true_and, lexT, heldT, tailT, planT, nb, Int.toNat_zero, List.getD_cons_zero, List.getD_cons_succ, List.set_cons_zero, List.set_cons_succ, sp4, sp2, sp, sb]; rw [wn]; omega) (obP.mk (by (try simp only [nc] at *); subst hA hS; simp (disch := (refine KR.mk ?_; kernel_rfl)) only [alg, obP_iff, condP_iff, retP_iff, retM_iff, ofNat_cast, nc, Int.toNat_natCast, decide_eq_true_eq, decide_eq_false_iff_not, wrap_w64, Bool.not_eq_true', Bool.not_eq_false', beq_iff_eq, beq_eq_false_iff_ne, AV.bool.injEq, AV.int.injEq, AV.t2.injEq, AV.t3.injEq, AV.own.injEq, List.cons.injEq, Prod.mk.injEq, Row.ints.injEq, RW, Row.nlen, scalar, imp_self, and_true, true_and, lexT, heldT, tailT, planT, nb, Int.toNat_zero, List.getD_cons_zero, List.getD_cons_succ, List.set_cons_zero, List.set_cons_succ, sp4, sp2, sp, sb]) ?_))
      refine loop2 (fun (x : Nat) (nx : List Bool) => ⟨fr 140 [(0, .ro (.ints .i64 l)), (1, .ro (.ints .i64 c)), (2, .int .i64 n), (8, .own 2 true), (9, .int .i64 i), (10, .int .i64 w), (11, .own 3 true), (12, .int .i64 x), (25, .ro (.ints .i64 l)), (26, .int .i64 L), (27, .int .i64 i)], [.dead, .dead, .row 42 (.boolss tb), .row 4 (.bools nx)]⟩)
        (fun x nx => x ≤ N + 1 ∧ nx = C.take x ++ List.replicate (N + 1 - x) false) (fun x _ => N + 1 - x) 0 (List.replicate (N + 1) false) ?_ ?_ ?_
      · (try simp only [nc] at *); subst hA hS; simp (disch := (refine KR.mk ?_; kernel_rfl)) only [alg, obP_iff, condP_iff, retP_iff, retM_iff, ofNat_cast, nc, Int.toNat_natCast, decide_eq_true_eq, decide_eq_false_iff_not, wrap_w64, Bool.not_eq_true', Bool.not_eq_false', beq_iff_eq, beq_eq_false_iff_ne, AV.bool.injEq, AV.int.injEq, AV.t2.injEq, AV.t3.injEq, AV.own.injEq, List.cons.injEq, Prod.mk.injEq, Row.ints.injEq, RW, Row.nlen, scalar, imp_self, and_true, true_and, lexT, heldT, tailT, planT, nb, Int.toNat_zero, List.getD_cons_zero, List.getD_cons_succ, List.set_cons_zero, List.set_cons_succ, sp4, sp2, sp, sb]
        rw [wn, hw]
        simp [Wk_iff, fr, undefs, wkT, wkV, wkH, okid, Row.nlen, getO]
      · exact ⟨by omega, by simp⟩
      · intro x nx hR
        have x1 := hR.1
        have hnx := hR.2
        clear hR
        have hnl : nx.length = N + 1 := by rw [hnx]; simp [hCl]; omega
        have HX := Hd.mk hnx
        clear hnx
        cbv
        refine condP.mk (fun hc3 => ?_) (fun hc3 => ?_)
        · have hx : x ≤ N := by
            (try simp only [nc] at *); (try subst hA); (try subst hS); simp (disch := (refine KR.mk ?_; kernel_rfl)) only [alg, obP_iff, condP_iff, retP_iff, retM_iff, ofNat_cast, nc, Int.toNat_natCast, decide_eq_true_eq, decide_eq_false_iff_not, wrap_w64, Bool.not_eq_true', Bool.not_eq_false', beq_iff_eq, beq_eq_false_iff_ne, AV.bool.injEq, AV.int.injEq, AV.t2.injEq, AV.t3.injEq, AV.own.injEq, List.cons.injEq, Prod.mk.injEq, Row.ints.injEq, RW, Row.nlen, scalar, imp_self, and_true, true_and, lexT, heldT, tailT, planT, nb, Int.toNat_zero, List.getD_cons_zero, List.getD_cons_succ, List.set_cons_zero, List.set_cons_succ, sp4, sp2, sp, sb] at hc3
            omega
          obtain ⟨B, hB⟩ : ∃ B, B = C.take x := ⟨_, rfl⟩
          have hBl : B.length = x := by rw [hB]; simp [hCl]; omega
          refine loop2 (fun (m : Nat) (ny : List Bool) => ⟨fr 140 [(0, .ro (.ints .i64 l)), (1, .ro (.ints .i64 c)), (2, .int .i64 n), (8, .own 2 true), (9, .int .i64 i), (10, .int .i64 w), (11, .own 3 true), (12, .int .i64 x), (13, .int .i64 m), (25, .ro (.ints .i64 l)), (26, .int .i64 L), (27, .int .i64 i)], [.dead, .dead, .row 42 (.boolss tb), .row 4 (.bools ny)]⟩)
            (fun m ny => m ≤ mst W Q x + 1 ∧ ny = B ++ decide (0 ≤ cellF p W x m) :: List.replicate (N - x) false) (fun m _ => mst W Q x + 1 - m) 0 nx ?_ ?_ ?_
          · (try simp only [nc] at *); subst hA hS; simp (disch := (refine KR.mk ?_; kernel_rfl)) only [alg, obP_iff, condP_iff, retP_iff, retM_iff, ofNat_cast, nc, Int.toNat_natCast, decide_eq_true_eq, decide_eq_false_iff_not, wrap_w64, Bool.not_eq_true', Bool.not_eq_false', beq_iff_eq, beq_eq_false_iff_ne, AV.bool.injEq, AV.int.injEq, AV.t2.injEq, AV.t3.injEq, AV.own.injEq, List.cons.injEq, Prod.mk.injEq, Row.ints.injEq, RW, Row.nlen, scalar, imp_self, and_true, true_and, lexT, heldT, tailT, planT, nb, Int.toNat_zero, List.getD_cons_zero, List.getD_cons_succ, List.set_cons_zero, List.set_cons_succ, sp4, sp2, sp, sb]
            simp [Wk_iff, fr, undefs, wkT, wkV, wkH, okid, Row.nlen, getO]
          · refine ⟨by omega, ?_⟩
            have hnx := HX.h
            rw [hnx, ← hB, show N + 1 - x = (N - x) + 1 by omega, List.replicate_succ]
            simp [cellF]
          · intro m ny hR
            have m1 := hR.1
            have hny := hR.2
            clear hR
            have hyl : ny.length = N + 1 := by rw [hny]; simp [hBl]; omega
            have hyg : ny.getD x false = decide (0 ≤ cellF p W x m) := by rw [hny, d_app_ge _ _ _ _ (by omega), hBl]; simp
            have hym : ∀ b, ny.set x b = B ++ b :: List.replicate (N - x) false := fun b => by rw [hny, d_app_set _ _ _ _ _ (by omega)]
            have HY := Hd.mk hny
            clear hny
            cbv
            (try simp only [nc] at *); subst hA hS hr hfr; simp (disch := (refine KR.mk ?_; kernel_rfl)) only [alg, obP_iff, condP_iff, retP_iff, retM_iff, ofNat_cast, nc, Int.toNat_natCast, decide_eq_true_eq, decide_eq_false_iff_not, wrap_w64, Bool.not_eq_true', Bool.not_eq_false', beq_iff_eq, beq_eq_false_iff_ne, AV.bool.injEq, AV.int.injEq, AV.t2.injEq, AV.t3.injEq, AV.own.injEq, List.cons.injEq, Prod.mk.injEq, Row.ints.injEq, RW, Row.nlen, scalar, imp_self, and_true, true_and, lexT, heldT, tailT, planT, nb, Int.toNat_zero, List.getD_cons_zero, List.getD_cons_succ, List.set_cons_zero, List.set_cons_succ, sp4, sp2, sp, sb]
            have hwW := H1.h
            have hqQ := H2.h
            have hnN := HN.h
            (try simp only [nc] at hwW hqQ hnN)
            obtain ⟨X, hX⟩ : ∃ X, X = m * W := ⟨_, rfl⟩
            have hQm : mst W Q x ≤ Q := by unfold mst; omega
            have hXb : X ≤ 401 * 200 := by rw [hX]; exact Nat.mul_le_mul (by omega) (by omega)
            have hmw : (m : Int) * w = (X : Int) := by rw [hwW, hX]; simp
            have v1 : w64 ((m : Int) * w) = (X : Int) := by rw [hmw, w64_id (by omega)]
            have v3 : w64 ((m : Int) + 1) = ((m + 1 : Nat) : Int) := by rw [w64_id (by omega)]; omega
            have v4 : w64 ((x : Int) + 1) = ((x + 1 : Nat) : Int) := by rw [w64_id (by omega)]; omega
            have hlt := mst_le (w := W) (s := Q) (k := x) (m := m) (by omega)
            rw [← hX] at hlt
            rw [htil]
            simp only [← hq, v1, v3, v4]
            refine ⟨by omega, fun hg => ?_, fun hg => ?_⟩
            · have hmm : m ≤ Q ∧ X ≤ x := by
                simp only [Bool.and_eq_true, decide_eq_true_eq] at hg; omega
              have v2 : w64 ((x : Int) - (X : Int)) = ((x - X : Nat) : Int) := by rw [w64_id (by omega)]; omega
              simp only [v2, Int.toNat_natCast]
              refine ⟨by omega, fun _ => by omega, fun _ => by omega, by omega, m + 1, B ++ decide (0 ≤ cellF p W x (m + 1)) :: List.replicate (N - x) false, ?_, ⟨by have := hlt.2 hmm; omega, rfl⟩, by have := hlt.2 hmm; omega⟩
              have e : (ny.getD x false || (tb.getD i []).getD (x - X) false) = decide (0 ≤ cellF p W x (m + 1)) := by
                rw [hyg, hcg _ (by omega), cell_pos, ← hX]
              rw [e, hym]
              simp [Wk_iff, fr, undefs, wkT, wkV, wkH, okid, Row.nlen, getO]
            · have hmm : ¬ (m ≤ Q ∧ X ≤ x) := by
                intro hh
                have : (decide ((m : Int) ≤ q) && decide ((X : Int) ≤ (x : Int))) = true := by
                  simp only [Bool.and_eq_true, decide_eq_true_eq]; omega
                rw [hg] at this; cases this
              have hme : m = mst W Q x + 1 := by
                rcases Nat.lt_or_ge (mst W Q x) m with h1 | h1
                · omega
                · exact absurd (hlt.1 h1) hmm
              refine ⟨x + 1, ny, ?_, ⟨by omega, ?_⟩, by omega⟩
              · simp [Wk_iff, fr, undefs, wkT, wkV, wkH, okid, Row.nlen, getO]
              · have e1 : C.take (x + 1) = B ++ [C.getD x false] := by
                  rw [hB, take_getD false _ _ (by omega)]
                rw [HY.h, e1, hCg x hx, hme, show N + 1 - (x + 1) = N - x by omega]
                simp
        · have hx : x = N + 1 := by
            (try simp only [nc] at *); (try subst hA); (try subst hS); simp (disch := (refine KR.mk ?_; kernel_rfl)) only [alg, obP_iff, condP_iff, retP_iff, retM_iff, ofNat_cast, nc, Int.toNat_natCast, decide_eq_true_eq, decide_eq_false_iff_not, wrap_w64, Bool.not_eq_true', Bool.not_eq_false', beq_iff_eq, beq_eq_false_iff_ne, AV.bool.injEq, AV.int.injEq, AV.t2.injEq, AV.t3.injEq, AV.own.injEq, List.cons.injEq, Prod.mk.injEq, Row.ints.injEq, RW, Row.nlen, scalar, imp_self, and_true, true_and, lexT, heldT, tailT, planT, nb, Int.toNat_zero, List.getD_cons_zero, List.getD_cons_succ, List.set_cons_zero, List.set_cons_succ, sp4, sp2, sp, sb] at hc3
            omega
          have hnC : nx = C := by rw [HX.h, hx, List.take_of_length_le (by omega)]; simp
          have hnext : tb ++ [C] = cbT l c N (i + 1) := by rw [HT.h, cbT_succ, hC]
          have hil : i < l.length := hi
          (try simp only [nc] at *); subst hA hS hr hfr; simp (disch := (refine KR.mk ?_; kernel_rfl)) only [alg, obP_iff, condP_iff, retP_iff, retM_iff, ofNat_cast, nc, Int.toNat_natCast, decide_eq_true_eq, decide_eq_false_iff_not, wrap_w64, Bool.not_eq_true', Bool.not_eq_false', beq_iff_eq, beq_eq_false_iff_ne, AV.bool.injEq, AV.int.injEq, AV.t2.injEq, AV.t3.injEq, AV.own.injEq, List.cons.injEq, Prod.mk.injEq, Row.ints.injEq, RW, Row.nlen, scalar, imp_self, and_true, true_and, lexT, heldT, tailT, planT, nb, Int.toNat_zero, List.getD_cons_zero, List.getD_cons_succ, List.set_cons_zero, List.set_cons_succ, sp4, sp2, sp, sb]
          have v4 : w64 ((i : Int) + 1) = ((i + 1 : Nat) : Int) := by rw [w64_id (by omega)]; omega
          refine ⟨by omega, by simp, i + 1, tb ++ [C], ?_, ⟨by omega, hnext⟩, by omega⟩
          rw [v4, hnC]
          simp [Wk_iff, fr, undefs, wkT, wkV, wkH, okid, Row.nlen, getO]
    · have hi : i = l.length := by
        (try simp only [nc] at *); (try subst hA); (try subst hS); simp (disch := (refine KR.mk ?_; kernel_rfl)) only [alg, obP_iff, condP_iff, retP_iff, retM_iff, ofNat_cast, nc, Int.toNat_natCast, decide_eq_true_eq, decide_eq_false_iff_not, wrap_w64, Bool.not_eq_true', Bool.not_eq_false', beq_iff_eq, beq_eq_false_iff_ne, AV.bool.injEq, AV.int.injEq, AV.t2.injEq, AV.t3.injEq, AV.own.injEq, List.cons.injEq, Prod.mk.injEq, Row.ints.injEq, RW, Row.nlen, scalar, imp_self, and_true, true_and, lexT, heldT, tailT, planT, nb, Int.toNat_zero, List.getD_cons_zero, List.getD_cons_succ, List.set_cons_zero, List.set_cons_succ, sp4, sp2, sp, sb] at hc
        omega
      have htG : ∀ j, j ≤ l.length → tb.getD j [] = cb l c N j := fun j hj => htg j (by omega)
      refine obP.mk (by (try simp only [nc] at *); subst hA hS; simp (disch := (refine KR.mk ?_; kernel_rfl)) only [alg, obP_iff, condP_iff, retP_iff, retM_iff, ofNat_cast, nc, Int.toNat_natCast, decide_eq_true_eq, decide_eq_false_iff_not, wrap_w64, Bool.not_eq_true', Bool.not_eq_false', beq_iff_eq, beq_eq_false_iff_ne, AV.bool.injEq, AV.int.injEq, AV.t2.injEq, AV.t3.injEq, AV.own.injEq, List.cons.injEq, Prod.mk.injEq, Row.ints.injEq, RW, Row.nlen, scalar, imp_self, and_true, true_and, lexT, heldT, tailT, planT, nb, Int.toNat_zero, List.getD_cons_zero, List.getD_cons_succ, List.set_cons_zero, List.set_cons_succ, sp4, sp2, sp, sb]; omega) (obP.mk (by (try simp only [nc] at *); subst hA hS; simp (disch := (refine KR.mk ?_; kernel_rfl)) only [alg, obP_iff, condP_iff, retP_iff, retM_iff, ofNat_cast, nc, Int.toNat_natCast, decide_eq_true_eq, decide_eq_false_iff_not, wrap_w64, Bool.not_eq_true', Bool.not_eq_false', beq_iff_eq, beq_eq_false_iff_ne, AV.bool.injEq, AV.int.injEq, AV.t2.injEq, AV.t3.injEq, AV.own.injEq, List.cons.injEq, Prod.mk.injEq, Row.ints.injEq, RW, Row.nlen, scalar, imp_self, and_true, true_and, lexT, heldT, tailT, planT, nb, Int.toNat_zero, List.getD_cons_zero, List.getD_cons_succ, List.set_cons_zero, List.set_cons_succ, sp4, sp2, sp, sb]; rw [htG _ (Nat.le_refl _), cb_len]; omega) (condP.mk (fun hc2 => ?_) (fun hc2 => ?_)))
      · have hb : hasB l c N = false := by
          (try simp only [nc] at *); (try subst hA); (try subst hS); simp (disch := (refine KR.mk ?_; kernel_rfl)) only [alg, obP_iff, condP_iff, retP_iff, retM_iff, ofNat_cast, nc, Int.toNat_natCast, decide_eq_true_eq, decide_eq_false_iff_not, wrap_w64, Bool.not_eq_true', Bool.not_eq_false', beq_iff_eq, beq_eq_false_iff_ne, AV.bool.injEq, AV.int.injEq, AV.t2.injEq, AV.t3.injEq, AV.own.injEq, List.cons.injEq, Prod.mk.injEq, Row.ints.injEq, RW, Row.nlen, scalar, imp_self, and_true, true_and, lexT, heldT, tailT, planT, nb, Int.toNat_zero, List.getD_cons_zero, List.getD_cons_succ, List.set_cons_zero, List.set_cons_succ, sp4, sp2, sp, sb] at hc2
          rw [htG _ (Nat.le_refl _), ← hN, cb_get _ _ _ _ _ (Nat.le_refl _)] at hc2
          exact hc2
        (try simp only [nc] at *); subst hA hS hr hfr; simp (disch := (refine KR.mk ?_; kernel_rfl)) only [alg, obP_iff, condP_iff, retP_iff, retM_iff, ofNat_cast, nc, Int.toNat_natCast, decide_eq_true_eq, decide_eq_false_iff_not, wrap_w64, Bool.not_eq_true', Bool.not_eq_false', beq_iff_eq, beq_eq_false_iff_ne, AV.bool.injEq, AV.int.injEq, AV.t2.injEq, AV.t3.injEq, AV.own.injEq, List.cons.injEq, Prod.mk.injEq, Row.ints.injEq, RW, Row.nlen, scalar, imp_self, and_true, true_and, lexT, heldT, tailT, planT, nb, Int.toNat_zero, List.getD_cons_zero, List.getD_cons_succ, List.set_cons_zero, List.set_cons_succ, sp4, sp2, sp, sb]
        rw [← hN, wkL, hb]
        simp
      · have hb : hasB l c N = true := by
          (try simp only [nc] at *); (try subst hA); (try subst hS); simp (disch := (refine KR.mk ?_; kernel_rfl)) only [alg, obP_iff, condP_iff, retP_iff, retM_iff, ofNat_cast, nc, Int.toNat_natCast, decide_eq_true_eq, decide_eq_false_iff_not, wrap_w64, Bool.not_eq_true', Bool.not_eq_false', beq_iff_eq, beq_eq_false_iff_ne, AV.bool.injEq, AV.int.injEq, AV.t2.injEq, AV.t3.injEq, AV.own.injEq, List.cons.injEq, Prod.mk.injEq, Row.ints.injEq, RW, Row.nlen, scalar, imp_self, and_true, true_and, lexT, heldT, tailT, planT, nb, Int.toNat_zero, List.getD_cons_zero, List.getD_cons_succ, List.set_cons_zero, List.set_cons_succ, sp4, sp2, sp, sb] at hc2
          rw [htG _ (Nat.le_refl _), ← hN, cb_get _ _ _ _ _ (Nat.le_refl _)] at hc2
          exact hc2
        have hb' : 0 ≤ (rowF l c N l.length).getD N 0 := of_decide_eq_true hb
        have hfl : wkL l c N = fsL l c N := by rw [wkL, if_pos hb]
        refine obP.mk (by (try simp only [nc] at *); subst hA hS; simp (disch := (refine KR.mk ?_; kernel_rfl)) only [alg, obP_iff, condP_iff, retP_iff, retM_iff, ofNat_cast, nc, Int.toNat_natCast, decide_eq_true_eq, decide_eq_false_iff_not, wrap_w64, Bool.not_eq_true', Bool.not_eq_false', beq_iff_eq, beq_eq_false_iff_ne, AV.bool.injEq, AV.int.injEq, AV.t2.injEq, AV.t3.injEq, AV.own.injEq, List.cons.injEq, Prod.mk.injEq, Row.ints.injEq, RW, Row.nlen, scalar, imp_self, and_true, true_and, lexT, heldT, tailT, planT, nb, Int.toNat_zero, List.getD_cons_zero, List.getD_cons_succ, List.set_cons_zero, List.set_cons_succ, sp4, sp2, sp, sb]; omega) (obP.mk (by (try simp only [nc] at *); subst hA hS; simp (disch := (refine KR.mk ?_; kernel_rfl)) only [alg, obP_iff, condP_iff, retP_iff, retM_iff, ofNat_cast, nc, Int.toNat_natCast, decide_eq_true_eq, decide_eq_false_iff_not, wrap_w64, Bool.not_eq_true', Bool.not_eq_false', beq_iff_eq, beq_eq_false_iff_ne, AV.bool.injEq, AV.int.injEq, AV.t2.injEq, AV.t3.injEq, AV.own.injEq, List.cons.injEq, Prod.mk.injEq, Row.ints.injEq, RW, Row.nlen, scalar, imp_self, and_true, true_and, lexT, heldT, tailT, planT, nb, Int.toNat_zero, List.getD_cons_zero, List.getD_cons_succ, List.set_cons_zero, List.set_cons_succ, sp4, sp2, sp, sb]) ?_)
        refine loop4 (fun (i : Nat) (d k : Int) (out : List Int) => ⟨fr 140 [(0, .ro (.ints .i64 l)), (1, .ro (.ints .i64 c)), (2, .int .i64 k), (8, .own 2 true), (14, .own 3 false), (15, .int .i64 d)], [.dead, .dead, .row 42 (.boolss tb), .row 3 (.ints .i64 out)]⟩)
          (fun i d k out => i ≤ l.length ∧ d = (i : Int) - 1 ∧ (0 ≤ k ∧ k ≤ N) ∧ 0 ≤ (rowF l c N i).getD k.toNat 0 ∧ ∃ suf, suf.length = l.length - i ∧ fsL l c N = bq l c N i k.toNat ++ suf ∧ out = List.replicate i 0 ++ suf)
          (fun i _ _ _ => i) l.length ((l.length : Int) - 1) n (List.replicate l.length 0) ?_ ?_ ?_
        · (try simp only [nc] at *); subst hA hS; simp (disch := (refine KR.mk ?_; kernel_rfl)) only [alg, obP_iff, condP_iff, retP_iff, retM_iff, ofNat_cast, nc, Int.toNat_natCast, decide_eq_true_eq, decide_eq_false_iff_not, wrap_w64, Bool.not_eq_true', Bool.not_eq_false', beq_iff_eq, beq_eq_false_iff_ne, AV.bool.injEq, AV.int.injEq, AV.t2.injEq, AV.t3.injEq, AV.own.injEq, List.cons.injEq, Prod.mk.injEq, Row.ints.injEq, RW, Row.nlen, scalar, imp_self, and_true, true_and, lexT, heldT, tailT, planT, nb, Int.toNat_zero, List.getD_cons_zero, List.getD_cons_succ, List.set_cons_zero, List.set_cons_succ, sp4, sp2, sp, sb]
          have w1 : w64 ((l.length : Int) - 1) = (l.length : Int) - 1 := w64_id (by omega)
          simp only [w1, Int.toNat_natCast]
          simp [Wk_iff, fr, undefs, wkT, wkV, wkH, okid, Row.nlen, getO]
        · refine ⟨by omega, rfl, by omega, ?_, [], by simp, ?_, by simp⟩
          · rw [← hN]; exact hb'
          · rw [← hN]; simp [fsL]
        · intro i d k0 out hR
          have i1 := hR.1
          have hci := hR.2.1
          have hk0 := hR.2.2.1
          have hpos := hR.2.2.2.1
          obtain ⟨suf, hsuf⟩ := hR.2.2.2.2
          have hsf := hsuf.1
          have hbest := hsuf.2.1
          have ho := hsuf.2.2
          clear hR hsuf
          obtain ⟨k, hkk⟩ := Int.eq_ofNat_of_zero_le hk0.1
          rw [hkk, Int.toNat_natCast] at hpos hbest
          have hk : k ≤ N := by omega
          rw [hkk]
          clear hk0 hkk
          have HK := Hd.mk hk
          have hol : out.length = l.length := by rw [ho]; simp [hsf]; omega
          have HC := Hd.mk hci
          clear hci
          cbv
          have hci := HC.h
          (try simp only [nc] at hci)
          refine condP.mk (fun hc2 => ?_) (fun hc2 => ?_)
          · have h0 : 0 ≤ d := by
              (try simp only [nc] at *); (try subst hA); (try subst hS); simp (disch := (refine KR.mk ?_; kernel_rfl)) only [alg, obP_iff, condP_iff, retP_iff, retM_iff, ofNat_cast, nc, Int.toNat_natCast, decide_eq_true_eq, decide_eq_false_iff_not, wrap_w64, Bool.not_eq_true', Bool.not_eq_false', beq_iff_eq, beq_eq_false_iff_ne, AV.bool.injEq, AV.int.injEq, AV.t2.injEq, AV.t3.injEq, AV.own.injEq, List.cons.injEq, Prod.mk.injEq, Row.ints.injEq, RW, Row.nlen, scalar, imp_self, and_true, true_and, lexT, heldT, tailT, planT, nb, Int.toNat_zero, List.getD_cons_zero, List.getD_cons_succ, List.set_cons_zero, List.set_cons_succ, sp4, sp2, sp, sb] at hc2
              exact hc2
            have hk := HK.h
            obtain ⟨j, hj⟩ : ∃ j, i = j + 1 := ⟨i - 1, by omega⟩
            rw [hj] at hpos hbest hsf
            have hcj : d.toNat = j := by omega
            have hjl : j < l.length := by omega
            have hwb := h.w j hjl
            have hsb := h.s j hjl
            obtain ⟨w, hw⟩ : ∃ w, w = l.getD j 0 := ⟨_, rfl⟩
            obtain ⟨q, hq⟩ : ∃ q, q = c.getD j 0 := ⟨_, rfl⟩
            obtain ⟨W, hW⟩ : ∃ W, W = w.toNat := ⟨_, rfl⟩
            obtain ⟨Q, hQ⟩ : ∃ Q, Q = q.toNat := ⟨_, rfl⟩
            rw [← hw] at hwb
            rw [← hq] at hsb
            have hwW : w = W := by omega
            have hqQ : q = Q := by omega
            obtain ⟨g, hgd⟩ : ∃ g, g = gs l c N j k := ⟨_, rfl⟩
            have hpk : ps l c N j k = dn g (mst W Q k) := by rw [ps, hgd, ← hw, ← hq, ← hW, ← hQ]
            have hex : ∃ x, x ≤ mst W Q k ∧ g x = true := by rw [hgd, hQ, hW, hq, hw]; exact gs_ex hk hpos
            have H1 := Hd.mk hwW
            have H2 := Hd.mk hqQ
            have H3 := Hd.mk hcj
            have H4 := Hd.mk hj
            refine obP.mk ⟨by kernel_rfl⟩ (obP.mk (by (try simp only [nc] at *); subst hA hS; simp (disch := (refine KR.mk ?_; kernel_rfl)) only [alg, obP_iff, condP_iff, retP_iff, retM_iff, ofNat_cast, nc, Int.toNat_natCast, decide_eq_true_eq, decide_eq_false_iff_not, wrap_w64, Bool.not_eq_true', Bool.not_eq_false', beq_iff_eq, beq_eq_false_iff_ne, AV.bool.injEq, AV.int.injEq, AV.t2.injEq, AV.t3.injEq, AV.own.injEq, List.cons.injEq, Prod.mk.injEq, Row.ints.injEq, RW, Row.nlen, scalar, imp_self, and_true, true_and, lexT, heldT, tailT, planT, nb, Int.toNat_zero, List.getD_cons_zero, List.getD_cons_succ, List.set_cons_zero, List.set_cons_succ, sp4, sp2, sp, sb]; omega) (obP.mk (by (try simp only [nc] at *); subst hA hS; simp (disch := (refine KR.mk ?_; kernel_rfl)) only [alg, obP_iff, condP_iff, retP_iff, retM_iff, ofNat_cast, nc, Int.toNat_natCast, decide_eq_true_eq, decide_eq_false_iff_not, wrap_w64, Bool.not_eq_true', Bool.not_eq_false', beq_iff_eq, beq_eq_false_iff_ne, AV.bool.injEq, AV.int.injEq, AV.t2.injEq, AV.t3.injEq, AV.own.injEq, List.cons.injEq, Prod.mk.injEq, Row.ints.injEq, RW, Row.nlen, scalar, imp_self, and_true, true_and, lexT, heldT, tailT, planT, nb, Int.toNat_zero, List.getD_cons_zero, List.getD_cons_succ, List.set_cons_zero, List.set_cons_succ, sp4, sp2, sp, sb]; omega) (obP.mk (by (try simp only [nc] at *); subst hA hS; simp (disch := (refine KR.mk ?_; kernel_rfl)) only [alg, obP_iff, condP_iff, retP_iff, retM_iff, ofNat_cast, nc, Int.toNat_natCast, decide_eq_true_eq, decide_eq_false_iff_not, wrap_w64, Bool.not_eq_true', Bool.not_eq_false', beq_iff_eq, beq_eq_false_iff_ne, AV.bool.injEq, AV.int.injEq, AV.t2.injEq, AV.t3.injEq, AV.own.injEq, List.cons.injEq, Prod.mk.injEq, Row.ints.injEq, RW, Row.nlen, scalar, imp_self, and_true, true_and, lexT, heldT, tailT, planT, nb, Int.toNat_zero, List.getD_cons_zero, List.getD_cons_succ, List.set_cons_zero, List.set_cons_succ, sp4, sp2, sp, sb]; rw [hcj, ← hw]; omega) (obP.mk (by subst hA hS; trivial) ?_))))
            refine loop1 (fun (m : Nat) => ⟨fr 140 [(0, .ro (.ints .i64 l)), (1, .ro (.ints .i64 c)), (2, .int .i64 k), (8, .own 2 true), (14, .own 3 false), (15, .int .i64 d), (16, .int .i64 m)], [.dead, .dead, .row 42 (.boolss tb), .row 3 (.ints .i64 out)]⟩)
              (fun m => m ≤ mst W Q k ∧ ps l c N j k = dn g m ∧ ∃ x, x ≤ m ∧ g x = true) (fun m => m) (mst W Q k) ?_ ?_ ?_
            · (try simp only [nc] at *); subst hA hS; simp (disch := (refine KR.mk ?_; kernel_rfl)) only [alg, obP_iff, condP_iff, retP_iff, retM_iff, ofNat_cast, nc, Int.toNat_natCast, decide_eq_true_eq, decide_eq_false_iff_not, wrap_w64, Bool.not_eq_true', Bool.not_eq_false', beq_iff_eq, beq_eq_false_iff_ne, AV.bool.injEq, AV.int.injEq, AV.t2.injEq, AV.t3.injEq, AV.own.injEq, List.cons.injEq, Prod.mk.injEq, Row.ints.injEq, RW, Row.nlen, scalar, imp_self, and_true, true_and, lexT, heldT, tailT, planT, nb, Int.toNat_zero, List.getD_cons_zero, List.getD_cons_succ, List.set_cons_zero, List.set_cons_succ, sp4, sp2, sp, sb]
              have := mn_mst q w W Q k hwW hqQ (by omega)
              simp only [minI, hcj, ← hw, ← hq, this]
              simp [Wk_iff, fr, undefs, wkT, wkV, wkH, okid, Row.nlen, getO]
            · exact ⟨Nat.le_refl _, hpk, hex⟩
            · intro m hR
              have m1 := hR.1
              have m2 := hR.2.1
              have m3 := hR.2.2
              clear hR
              cbv
              (try simp only [nc] at *); subst hA hS hr hfr; simp (disch := (refine KR.mk ?_; kernel_rfl)) only [alg, obP_iff, condP_iff, retP_iff, retM_iff, ofNat_cast, nc, Int.toNat_natCast, decide_eq_true_eq, decide_eq_false_iff_not, wrap_w64, Bool.not_eq_true', Bool.not_eq_false', beq_iff_eq, beq_eq_false_iff_ne, AV.bool.injEq, AV.int.injEq, AV.t2.injEq, AV.t3.injEq, AV.own.injEq, List.cons.injEq, Prod.mk.injEq, Row.ints.injEq, RW, Row.nlen, scalar, imp_self, and_true, true_and, lexT, heldT, tailT, planT, nb, Int.toNat_zero, List.getD_cons_zero, List.getD_cons_succ, List.set_cons_zero, List.set_cons_succ, sp4, sp2, sp, sb]
              have hwW := H1.h
              have hqQ := H2.h
              have hcj := H3.h
              have hj := H4.h
              (try simp only [nc] at hwW hqQ hcj hj)
              obtain ⟨X, hX⟩ : ∃ X, X = m * W := ⟨_, rfl⟩
              have hXk : X ≤ k := by rw [hX]; exact ((mst_le (show 0 < W by omega)).1 m1).2
              have hmX : m ≤ X := by rw [hX]; exact Nat.le_mul_of_pos_right m (by omega)
              have hmw : (m : Int) * w = (X : Int) := by rw [hwW, hX]; simp
              have w1 : w64 ((m : Int) * w) = (X : Int) := by rw [hmw, w64_id (by omega)]
              have w2 : w64 ((k : Int) - (X : Int)) = ((k - X : Nat) : Int) := by rw [w64_id (by omega)]; omega
              have wc : w64 (d - 1) = d - 1 := w64_id (by omega)
              have t1 := htG j (by omega)
              obtain ⟨r, hr⟩ : ∃ r, r = (rowF l c N j).getD (k - X) 0 := ⟨_, rfl⟩
              have t2 : (cb l c N j).getD (k - X) false = decide (0 ≤ r) := by rw [cb_get _ _ _ _ _ (by omega), hr]
              simp only [hcj, ← hw, w1, w2, Int.toNat_natCast, t1, cb_len, t2, wc]
              have hgm : g m = decide (0 ≤ r) := by rw [hgd, gs, ← hw, ← hW, ← hX, ← hr]
              refine ⟨by omega, by omega, by omega, fun hv => ?_, fun hv => ⟨by omega, by omega, j, d - 1, ((k - X : Nat) : Int), out.set j (m : Int), ?_, ⟨by omega, by omega, by omega, ?_, (m : Int) :: suf, by simp; omega, ?_, ?_⟩, by omega⟩⟩
              · have hf : g m = false := by rw [hgm]; exact hv
                obtain ⟨m', hm'⟩ : ∃ m', m = m' + 1 := by
                  obtain ⟨x, hx, hgx⟩ := m3
                  refine ⟨m - 1, ?_⟩
                  rcases Nat.eq_zero_or_pos m with h0 | h0
                  · have : x = m := by omega
                    rw [this, hf] at hgx; cases hgx
                  · omega
                have w6 : w64 ((m : Int) - 1) = (m' : Int) := by rw [w64_id (by omega)]; omega
                refine ⟨m', ?_, ⟨by omega, by rw [m2, hm', dn_f (by rw [← hm']; exact hf)], ?_⟩, by omega⟩
                · simp only [w6]
                  simp [Wk_iff, fr, undefs, wkT, wkV, wkH, okid, Row.nlen, getO]
                · obtain ⟨x, hx, hgx⟩ := m3
                  refine ⟨x, ?_, hgx⟩
                  rcases Nat.lt_or_ge m' x with h1 | h1
                  · have : x = m := by omega
                    rw [this, hf] at hgx; cases hgx
                  · exact h1
              · simp [Wk_iff, fr, undefs, wkT, wkV, wkH, okid, Row.nlen, getO]
              · have := of_decide_eq_true hv
                rw [Int.toNat_natCast, ← hr]; omega
              · have ht : g m = true := by rw [hgm]; exact hv
                have hpm : ps l c N j k = m := by rw [m2, dn_t ht]
                rw [Int.toNat_natCast, hbest, bq, ls, hpm, ← hw, ← hW, ← hX]; simp
              · rw [ho, hj, ← d_rep_snoc, List.append_assoc, List.singleton_append, d_app_set _ _ _ _ _ (by simp)]
          · have h0 : ¬ 0 ≤ d := by
              (try simp only [nc] at *); (try subst hA); (try subst hS); simp (disch := (refine KR.mk ?_; kernel_rfl)) only [alg, obP_iff, condP_iff, retP_iff, retM_iff, ofNat_cast, nc, Int.toNat_natCast, decide_eq_true_eq, decide_eq_false_iff_not, wrap_w64, Bool.not_eq_true', Bool.not_eq_false', beq_iff_eq, beq_eq_false_iff_ne, AV.bool.injEq, AV.int.injEq, AV.t2.injEq, AV.t3.injEq, AV.own.injEq, List.cons.injEq, Prod.mk.injEq, Row.ints.injEq, RW, Row.nlen, scalar, imp_self, and_true, true_and, lexT, heldT, tailT, planT, nb, Int.toNat_zero, List.getD_cons_zero, List.getD_cons_succ, List.set_cons_zero, List.set_cons_succ, sp4, sp2, sp, sb] at hc2
              exact hc2
            have hi : i = 0 := by omega
            (try simp only [nc] at *); subst hA hS hr hfr; simp (disch := (refine KR.mk ?_; kernel_rfl)) only [alg, obP_iff, condP_iff, retP_iff, retM_iff, ofNat_cast, nc, Int.toNat_natCast, decide_eq_true_eq, decide_eq_false_iff_not, wrap_w64, Bool.not_eq_true', Bool.not_eq_false', beq_iff_eq, beq_eq_false_iff_ne, AV.bool.injEq, AV.int.injEq, AV.t2.injEq, AV.t3.injEq, AV.own.injEq, List.cons.injEq, Prod.mk.injEq, Row.ints.injEq, RW, Row.nlen, scalar, imp_self, and_true, true_and, lexT, heldT, tailT, planT, nb, Int.toNat_zero, List.getD_cons_zero, List.getD_cons_succ, List.set_cons_zero, List.set_cons_succ, sp4, sp2, sp, sb]
            rw [← hN, hfl, hb, ho, hbest, hi]
            simp [bq]
def V4 (S : Sp4) : List (Nat × (List AV → CR)) :=
  (41, fun args => match args with | [.ro (.ints .i64 l), .ro (.ints .i64 c), .int .i64 n] => .pure (S.dp l c n) (.t2 (.own 0 true) (.bool (S.hasW l c n))) [(3, .ints .i64 (S.wkL l c n))] | _ => .no) ::
  V3 S
set_option maxRecDepth 100000 in
theorem V4_ok : TabOK Try.prog (tfind (V4 sp4)) := by
  refine tab_cons (fun args => ?_) (V3_ok)
  · split
    · exact ent_pure fun h => wsStock_ok _ _ _ h
    · exact ent_no
theorem sp_cnt {l c : List Int} {n : Int} : (askB l n && (((c.length : Int) == (l.length : Int)) && allR c 0 400)) = (askB l n && cntB l c) := by
  rcases Bool.eq_false_or_eq_true (askB l n) with h | h
  · have hs : spB l = true := by simp only [askB, Bool.and_eq_true] at h; exact h.1
    rw [h, cntB, hs]
    simp only [Bool.true_and]
    rw [Bool.and_comm]
  · rw [h]; rfl
theorem specFF_ok (l c : List Int) (n : Int) (hl : l.length ≤ 1048576) (hcl : c.length ≤ 1048576) : FC Try.prog 29 [.ro (.ints .i64 l), .ro (.ints .i64 c), .int .i64 n] (.t2 (.own 0 true) (.bool (ffB l c n))) [(3, .ints .i64 (ffL l c n))] := by
  refine fc_eval sp4 V4 V4_ok hT hm Try.func29 rfl (by kernel_rfl) rfl rfl ?_
  intro A S r0 fr0 hA hS hr hfr
  cbv
  repeat refine obP.mk (by subst hA hS; first | assumption | trivial | exact fun _ => trivial | exact fun h => h | exact fun _ => ⟨hl, hcl⟩) ?_
  refine condP.mk (fun hg => ?_) (fun hg => ?_)
  · have hf : (!(askB l n) || !(((c.length : Int) == (l.length : Int)) && allR c 0 400)) = true := by subst hA hS; exact hg
    rw [nb, Bool.not_eq_true', sp_cnt] at hf
    have hfe : ffB l c n = false := by rw [ffB, hf]; rfl
    (try simp only [nc] at *); subst hA hS hr hfr; simp (disch := (refine KR.mk ?_; kernel_rfl)) only [alg, obP_iff, condP_iff, retP_iff, retM_iff, ofNat_cast, nc, Int.toNat_natCast, decide_eq_true_eq, decide_eq_false_iff_not, wrap_w64, Bool.not_eq_true', Bool.not_eq_false', beq_iff_eq, beq_eq_false_iff_ne, AV.bool.injEq, AV.int.injEq, AV.t2.injEq, AV.t3.injEq, AV.own.injEq, List.cons.injEq, Prod.mk.injEq, Row.ints.injEq, RW, Row.nlen, scalar, imp_self, and_true, true_and, lexT, heldT, tailT, planT, nb, Int.toNat_zero, List.getD_cons_zero, List.getD_cons_succ, List.set_cons_zero, List.set_cons_succ, sp4, sp2, sp, sb]
    simp [ffL, hfe]
  · have hf : (!(askB l n) || !(((c.length : Int) == (l.length : Int)) && allR c 0 400)) = false := by subst hA hS; exact hg
    rw [nb, Bool.not_eq_false', sp_cnt] at hf
    have hf2 := Bool.and_eq_true_iff.1 hf
    have h := ff_dp hf2.1 hf2.2
    have hfe : ffB l c n = hasB l c n.toNat := by rw [ffB, hf]; rfl
    (try simp only [nc] at *); subst hA hS hr hfr; simp (disch := (refine KR.mk ?_; kernel_rfl)) only [alg, obP_iff, condP_iff, retP_iff, retM_iff, ofNat_cast, nc, Int.toNat_natCast, decide_eq_true_eq, decide_eq_false_iff_not, wrap_w64, Bool.not_eq_true', Bool.not_eq_false', beq_iff_eq, beq_eq_false_iff_ne, AV.bool.injEq, AV.int.injEq, AV.t2.injEq, AV.t3.injEq, AV.own.injEq, List.cons.injEq, Prod.mk.injEq, Row.ints.injEq, RW, Row.nlen, scalar, imp_self, and_true, true_and, lexT, heldT, tailT, planT, nb, Int.toNat_zero, List.getD_cons_zero, List.getD_cons_succ, List.set_cons_zero, List.set_cons_succ, sp4, sp2, sp, sb]
    refine ⟨h, ?_⟩
    rw [hfe, ffL, hfe, wkL]
    simp
def V5 (S : Sp4) : List (Nat × (List AV → CR)) :=
  (30, fun args => match args with | [.ro (.ints .i64 l), .ro (.ints .i64 c), .int .i64 n] => .pure (S.sm l ∧ S.sm c) (.t2 (.own 0 true) (.bool (S.ffB l c n))) [(3, .ints .i64 (S.ffL l c n))] | _ => .no) ::
  (29, fun args => match args with | [.ro (.ints .i64 l), .ro (.ints .i64 c), .int .i64 n] => .pure (S.sm l ∧ S.sm c) (.t2 (.own 0 true) (.bool (S.ffB l c n))) [(3, .ints .i64 (S.ffL l c n))] | _ => .no) ::
  V4 S
set_option maxRecDepth 100000 in
theorem V5_ok : TabOK Try.prog (tfind (V5 sp4)) := by
  refine tab_cons (fun args => ?_) (tab_cons (fun args => ?_) (V4_ok))
  · split
    · exact ent_pure fun h => implFF_ok _ _ _ h.1 h.2
    · exact ent_no
  · split
    · exact ent_pure fun h => specFF_ok _ _ _ h.1 h.2
    · exact ent_no
theorem ffL_len (l c : List Int) (n : Int) : (ffL l c n).length ≤ 8 := by
  unfold ffL; split
  · rename_i h
    simp only [ffB, Bool.and_eq_true] at h
    have := (ff_dp h.1.1 h.1.2).l
    rw [fsL, bq_len]; exact this
  · simp
set_option maxRecDepth 100000 in
theorem lawFillFromStock (l c : List Int) (n : Int) : FC Try.prog 10 [.ro (.ints .i64 l), .ro (.ints .i64 c), .int .i64 n] (.bool true) [] := by
  refine fc_eval sp4 V5 V5_ok hT hm Try.func10 rfl (by kernel_rfl) rfl rfl ?_
  intro A S r0 fr0 hA hS hr hfr
  cbv
  (try simp only [nc] at *); subst hA hS hr hfr; simp (disch := (refine KR.mk ?_; kernel_rfl)) only [alg, obP_iff, condP_iff, retP_iff, retM_iff, ofNat_cast, nc, Int.toNat_natCast, decide_eq_true_eq, decide_eq_false_iff_not, wrap_w64, Bool.not_eq_true', Bool.not_eq_false', beq_iff_eq, beq_eq_false_iff_ne, AV.bool.injEq, AV.int.injEq, AV.t2.injEq, AV.t3.injEq, AV.own.injEq, List.cons.injEq, Prod.mk.injEq, Row.ints.injEq, RW, Row.nlen, scalar, imp_self, and_true, true_and, lexT, heldT, tailT, planT, nb, Int.toNat_zero, List.getD_cons_zero, List.getD_cons_succ, List.set_cons_zero, List.set_cons_succ, sp4, sp2, sp, sb, eqL]
  have hm := ffL_len l c n
  simp [upFrom_len, heldL_up]
  try omega
end Go.Proofs.Ytjkkjfnkcfaigaa
