/-
  Spaces: the fewest that fill.
-/
import Derived.Test.YtjkkjfnkcfaigaaS3
import Derived.Test.YtjkkjfnkcfaigaaSF
set_option linter.unusedSimpArgs false
set_option linter.unusedVariables false
namespace Go.Proofs.Ytjkkjfnkcfaigaa
open Go.Ab

def fwB (l : List Int) (n : Int) : Bool := askB l n && feB l n.toNat
def fwL (l : List Int) (n : Int) : List Int := if fwB l n then bestL l (pl l) n.toNat else []
structure Sp3 extends Sp2 where
  bestW : List Int → List Int → Int → List Int
  noW : List Int → List Int → Int → Prop
  yesW : List Int → List Int → Int → Prop
  fwB : List Int → Int → Bool
  fwL : List Int → Int → List Int
def sp3 : Sp3 := { sp2 with bestW := fun ws st n => bestL ws st n.toNat, noW := fun ws st n => dpP ws st n ∧ hasB ws st n.toNat = false, yesW := fun ws st n => dpP ws st n ∧ hasB ws st n.toNat = true, fwB := fwB, fwL := fwL }
def Wn (S : Sp3) : List (Nat × (List AV → CR)) :=
  (39, fun args => match args with | [.ro (.ints .i64 ws), .ro (.ints .i64 st), .int .i64 n] => .pure (S.noW ws st n) (.nilS) [] | _ => .no) ::
  V1 S.toSp2
set_option maxRecDepth 100000 in
theorem Wn_ok : TabOK Try.prog (tfind (Wn sp3)) := by
  refine tab_cons (fun args => ?_) (V1_ok)
  · split
    · exact ent_pure fun h => bestOf_none _ _ _ h.1 h.2
    · exact ent_no
def Wy (S : Sp3) : List (Nat × (List AV → CR)) :=
  (39, fun args => match args with | [.ro (.ints .i64 ws), .ro (.ints .i64 st), .int .i64 n] => .pure (S.yesW ws st n) (.own 0 false) [(3, .ints .i64 (S.bestW ws st n))] | _ => .no) ::
  V1 S.toSp2
set_option maxRecDepth 100000 in
theorem Wy_ok : TabOK Try.prog (tfind (Wy sp3)) := by
  refine tab_cons (fun args => ?_) (V1_ok)
  · split
    · exact ent_pure fun h => bestOf_some _ _ _ h.1 h.2
    · exact ent_no
theorem implFew_y (l : List Int) (n : Int) (hl : l.length ≤ 1048576) (hb : feB l n.toNat = true) : FC Try.prog 28 [.ro (.ints .i64 l), .int .i64 n] (.t2 (.own 0 true) (.bool (fwB l n))) [(3, .ints .i64 (fwL l n))] := by
  refine fc_eval sp3 Wy Wy_ok hT hm Try.func28 rfl (by kernel_rfl) rfl rfl ?_
  intro A S r0 fr0 hA hS hr hfr
  cbv
  (try simp only [nc] at *); subst hA hS hr hfr; simp (disch := (refine KR.mk ?_; kernel_rfl)) only [alg, obP_iff, condP_iff, retP_iff, retM_iff, ofNat_cast, nc, Int.toNat_natCast, decide_eq_true_eq, decide_eq_false_iff_not, wrap_w64, Bool.not_eq_true', Bool.not_eq_false', beq_iff_eq, beq_eq_false_iff_ne, AV.bool.injEq, AV.int.injEq, AV.t2.injEq, AV.t3.injEq, AV.own.injEq, List.cons.injEq, Prod.mk.injEq, Row.ints.injEq, RW, Row.nlen, scalar, imp_self, and_true, true_and, lexT, heldT, tailT, planT, nb, Int.toNat_zero, List.getD_cons_zero, List.getD_cons_succ, List.set_cons_zero, List.set_cons_succ, sp3, sp2, sp, sb]
  refine ⟨hl, fun (h : askB l n = false) => ?_, fun (h : askB l n = true) => ?_⟩
  · simp [fwB, fwL, h]
  · refine ⟨hl, ⟨wOk_dp (ask_ok h), hb⟩, ?_⟩
    simp [fwL, fwB, h, hb]
theorem implFew_n (l : List Int) (n : Int) (hl : l.length ≤ 1048576) (hb : feB l n.toNat = false) : FC Try.prog 28 [.ro (.ints .i64 l), .int .i64 n] (.t2 (.own 0 true) (.bool (fwB l n))) [(3, .ints .i64 (fwL l n))] := by
  refine fc_eval sp3 Wn Wn_ok hT hm Try.func28 rfl (by kernel_rfl) rfl rfl ?_
  intro A S r0 fr0 hA hS hr hfr
  cbv
  (try simp only [nc] at *); subst hA hS hr hfr; simp (disch := (refine KR.mk ?_; kernel_rfl)) only [alg, obP_iff, condP_iff, retP_iff, retM_iff, ofNat_cast, nc, Int.toNat_natCast, decide_eq_true_eq, decide_eq_false_iff_not, wrap_w64, Bool.not_eq_true', Bool.not_eq_false', beq_iff_eq, beq_eq_false_iff_ne, AV.bool.injEq, AV.int.injEq, AV.t2.injEq, AV.t3.injEq, AV.own.injEq, List.cons.injEq, Prod.mk.injEq, Row.ints.injEq, RW, Row.nlen, scalar, imp_self, and_true, true_and, lexT, heldT, tailT, planT, nb, Int.toNat_zero, List.getD_cons_zero, List.getD_cons_succ, List.set_cons_zero, List.set_cons_succ, sp3, sp2, sp, sb]
  refine ⟨hl, fun (h : askB l n = false) => ?_, fun (h : askB l n = true) => ?_⟩
  · simp [fwB, fwL, h]
  · refine ⟨hl, ⟨wOk_dp (ask_ok h), hb⟩, ?_⟩
    simp [fwL, fwB, h, hb]
theorem implFew_ok (l : List Int) (n : Int) (hl : l.length ≤ 1048576) : FC Try.prog 28 [.ro (.ints .i64 l), .int .i64 n] (.t2 (.own 0 true) (.bool (fwB l n))) [(3, .ints .i64 (fwL l n))] := by
  rcases Bool.eq_false_or_eq_true (feB l n.toNat) with hb | hb
  · exact implFew_y l n hl hb
  · exact implFew_n l n hl hb
theorem take_ok {l : List Int} {n : Int} (h : wOk l n) {j : Nat} {y : Nat} (hj : j ≤ l.length) (hy : (y : Int) ≤ 400) : wOk (l.take j) (y : Int) := by
  have := h.hl
  refine ⟨by simp; omega, fun i hi => ?_, by omega⟩
  have hij : i < j := by simp at hi; omega
  have e : (l.take j).getD i 0 = l.getD i 0 := by simp [List.getD_eq_getElem?_getD, List.getElem?_take, hij]
  rw [e]
  exact h.hw i (by omega)
theorem hf2 {b : Bool} (h : b = true) : (!(!b)) = true := by rw [h]; rfl
set_option maxHeartbeats 2000000 in
set_option maxRecDepth 100000 in
theorem specFew_ok (l : List Int) (n : Int) (hl : l.length ≤ 1048576) : FC Try.prog 27 [.ro (.ints .i64 l), .int .i64 n] (.t2 (.own 0 true) (.bool (fwB l n))) [(3, .ints .i64 (fwL l n))] := by
  refine fc_eval sp2 V1 V1_ok hT hm Try.func27 rfl (by kernel_rfl) rfl rfl ?_
  intro A S r0 fr0 hA hS hr hfr
  cbv
  refine obP.mk (by subst hA hS; exact hl) (condP.mk (fun hg => ?_) (fun hg => ?_))
  · have hf : (!(!(askB l n))) = true := by subst hA hS; exact hg
    rw [Bool.not_not] at hf
    have hok := ask_ok hf
    have hn := ask_split hf
    refine obP.mk (by subst hA hS; exact fun _ => hf2 hf) (obP.mk (by subst hA hS; exact fun _ => hf2 hf) (obP.mk (by subst hA hS; exact hok) (obP.mk (by subst hA hS; exact fun _ => hf2 hf) (obP.mk (by subst hA hS; exact fun _ => hf2 hf) (obP.mk (by (try simp only [nc] at *); subst hA hS; simp (disch := (refine KR.mk ?_; kernel_rfl)) only [alg, obP_iff, condP_iff, retP_iff, retM_iff, ofNat_cast, nc, Int.toNat_natCast, decide_eq_true_eq, decide_eq_false_iff_not, wrap_w64, Bool.not_eq_true', Bool.not_eq_false', beq_iff_eq, beq_eq_false_iff_ne, AV.bool.injEq, AV.int.injEq, AV.t2.injEq, AV.t3.injEq, AV.own.injEq, List.cons.injEq, Prod.mk.injEq, Row.ints.injEq, RW, Row.nlen, scalar, imp_self, and_true, true_and, lexT, heldT, tailT, planT, nb, Int.toNat_zero, List.getD_cons_zero, List.getD_cons_succ, List.set_cons_zero, List.set_cons_succ, sp2, sp, sb]; rw [fwF_len]; omega) (obP.mk (by subst hA hS; exact fun _ => hf2 hf) (obP.mk (by subst hA hS; exact fun _ => hf2 hf) (obP.mk (by subst hA hS; exact fun _ => hf2 hf) (condP.mk (fun hc => ?_) (fun hc => ?_))))))))))
    · have hcn : (fwF l n.toNat).getD n.toNat 0 < 0 := by
        (try simp only [nc] at *); (try subst hA); (try subst hS); simp (disch := (refine KR.mk ?_; kernel_rfl)) only [alg, obP_iff, condP_iff, retP_iff, retM_iff, ofNat_cast, nc, Int.toNat_natCast, decide_eq_true_eq, decide_eq_false_iff_not, wrap_w64, Bool.not_eq_true', Bool.not_eq_false', beq_iff_eq, beq_eq_false_iff_ne, AV.bool.injEq, AV.int.injEq, AV.t2.injEq, AV.t3.injEq, AV.own.injEq, List.cons.injEq, Prod.mk.injEq, Row.ints.injEq, RW, Row.nlen, scalar, imp_self, and_true, true_and, lexT, heldT, tailT, planT, nb, Int.toNat_zero, List.getD_cons_zero, List.getD_cons_succ, List.set_cons_zero, List.set_cons_succ, sp2, sp, sb] at hc
        rw [hf] at hc
        simpa using hc
      have hfe : fwB l n = false := by
        rw [fwB, feB_eq (fun i hi => (hok.hw i hi).1) (by omega), decide_eq_false (by omega), Bool.and_false]
      (try simp only [nc] at *); subst hA hS hr hfr; simp (disch := (refine KR.mk ?_; kernel_rfl)) only [alg, obP_iff, condP_iff, retP_iff, retM_iff, ofNat_cast, nc, Int.toNat_natCast, decide_eq_true_eq, decide_eq_false_iff_not, wrap_w64, Bool.not_eq_true', Bool.not_eq_false', beq_iff_eq, beq_eq_false_iff_ne, AV.bool.injEq, AV.int.injEq, AV.t2.injEq, AV.t3.injEq, AV.own.injEq, List.cons.injEq, Prod.mk.injEq, Row.ints.injEq, RW, Row.nlen, scalar, imp_self, and_true, true_and, lexT, heldT, tailT, planT, nb, Int.toNat_zero, List.getD_cons_zero, List.getD_cons_succ, List.set_cons_zero, List.set_cons_succ, sp2, sp, sb]
      simp [fwL, hfe]
    · have hcn : 0 ≤ (fwF l n.toNat).getD n.toNat 0 := by
        (try simp only [nc] at *); (try subst hA); (try subst hS); simp (disch := (refine KR.mk ?_; kernel_rfl)) only [alg, obP_iff, condP_iff, retP_iff, retM_iff, ofNat_cast, nc, Int.toNat_natCast, decide_eq_true_eq, decide_eq_false_iff_not, wrap_w64, Bool.not_eq_true', Bool.not_eq_false', beq_iff_eq, beq_eq_false_iff_ne, AV.bool.injEq, AV.int.injEq, AV.t2.injEq, AV.t3.injEq, AV.own.injEq, List.cons.injEq, Prod.mk.injEq, Row.ints.injEq, RW, Row.nlen, scalar, imp_self, and_true, true_and, lexT, heldT, tailT, planT, nb, Int.toNat_zero, List.getD_cons_zero, List.getD_cons_succ, List.set_cons_zero, List.set_cons_succ, sp2, sp, sb] at hc
        rw [hf] at hc
        simpa using hc
      obtain ⟨N, hN⟩ : ∃ N, N = n.toNat := ⟨_, rfl⟩
      rw [← hN] at hcn
      have hw1 : ∀ i, i < l.length → 1 ≤ l.getD i 0 := fun i hi => (hok.hw i hi).1
      have hN4 : N ≤ 400 := by omega
      have hfe : feB l N = true := by rw [feB_eq hw1 hN4]; exact decide_eq_true hcn
      have hv1 : fwB l n = true := by rw [fwB, hf, ← hN, hfe]; rfl
      have hv2 : fwL l n = bestL l (pl l) N := by rw [fwL, if_pos hv1, ← hN]
      obtain ⟨fw, hfw⟩ : ∃ fw, fw = fwF l N := ⟨_, rfl⟩
      refine obP.mk (by subst hA hS; exact hok) (obP.mk (by (try simp only [nc] at *); subst hA hS; simp (disch := (refine KR.mk ?_; kernel_rfl)) only [alg, obP_iff, condP_iff, retP_iff, retM_iff, ofNat_cast, nc, Int.toNat_natCast, decide_eq_true_eq, decide_eq_false_iff_not, wrap_w64, Bool.not_eq_true', Bool.not_eq_false', beq_iff_eq, beq_eq_false_iff_ne, AV.bool.injEq, AV.int.injEq, AV.t2.injEq, AV.t3.injEq, AV.own.injEq, List.cons.injEq, Prod.mk.injEq, Row.ints.injEq, RW, Row.nlen, scalar, imp_self, and_true, true_and, lexT, heldT, tailT, planT, nb, Int.toNat_zero, List.getD_cons_zero, List.getD_cons_succ, List.set_cons_zero, List.set_cons_succ, sp2, sp, sb]; omega) (obP.mk (by (try simp only [nc] at *); subst hA hS; simp (disch := (refine KR.mk ?_; kernel_rfl)) only [alg, obP_iff, condP_iff, retP_iff, retM_iff, ofNat_cast, nc, Int.toNat_natCast, decide_eq_true_eq, decide_eq_false_iff_not, wrap_w64, Bool.not_eq_true', Bool.not_eq_false', beq_iff_eq, beq_eq_false_iff_ne, AV.bool.injEq, AV.int.injEq, AV.t2.injEq, AV.t3.injEq, AV.own.injEq, List.cons.injEq, Prod.mk.injEq, Row.ints.injEq, RW, Row.nlen, scalar, imp_self, and_true, true_and, lexT, heldT, tailT, planT, nb, Int.toNat_zero, List.getD_cons_zero, List.getD_cons_succ, List.set_cons_zero, List.set_cons_succ, sp2, sp, sb]) ?_))
      refine loop4 (fun (i : Nat) (c k : Int) (out : List Int) => ⟨fr 91 [(0, .ro (.ints .i64 l)), (1, .int .i64 k), (6, .own 2 true), (7, .own 3 false), (8, .int .i64 c)], [.dead, .dead, .row 3 (.ints .i64 fw), .row 3 (.ints .i64 out)]⟩)
        (fun i c k out => i ≤ l.length ∧ c = (i : Int) - 1 ∧ (0 ≤ k ∧ k ≤ N) ∧ 0 ≤ (rowF l (pl l) N i).getD k.toNat 0 ∧ fw.getD k.toNat 0 = (rowF l (pl l) N i).getD k.toNat 0 ∧ ∃ suf, suf.length = l.length - i ∧ bestL l (pl l) N = bs l (pl l) N i k.toNat ++ suf ∧ out = List.replicate i 0 ++ suf)
        (fun i _ _ _ => i) l.length ((l.length : Int) - 1) n (List.replicate l.length 0) ?_ ?_ ?_
      · (try simp only [nc] at *); subst hA hS; simp (disch := (refine KR.mk ?_; kernel_rfl)) only [alg, obP_iff, condP_iff, retP_iff, retM_iff, ofNat_cast, nc, Int.toNat_natCast, decide_eq_true_eq, decide_eq_false_iff_not, wrap_w64, Bool.not_eq_true', Bool.not_eq_false', beq_iff_eq, beq_eq_false_iff_ne, AV.bool.injEq, AV.int.injEq, AV.t2.injEq, AV.t3.injEq, AV.own.injEq, List.cons.injEq, Prod.mk.injEq, Row.ints.injEq, RW, Row.nlen, scalar, imp_self, and_true, true_and, lexT, heldT, tailT, planT, nb, Int.toNat_zero, List.getD_cons_zero, List.getD_cons_succ, List.set_cons_zero, List.set_cons_succ, sp2, sp, sb]
        have w1 : w64 ((l.length : Int) - 1) = (l.length : Int) - 1 := w64_id (by omega)
        simp only [w1, Int.toNat_natCast, ← hN, ← hfw]
        simp [Wk_iff, fr, undefs, wkT, wkV, wkH, okid, Row.nlen, getO]
      · refine ⟨Nat.le_refl _, rfl, by omega, ?_, ?_, [], by simp, ?_, by simp⟩
        · rw [← hN, few_eq hw1 hN4]; exact hcn
        · rw [← hN, few_eq hw1 hN4, hfw]
        · rw [← hN]; simp [bestL]
      · intro i c k0 out hR
        have i1 := hR.1
        have hci := hR.2.1
        have hk0 := hR.2.2.1
        have hpos := hR.2.2.2.1
        have heq := hR.2.2.2.2.1
        obtain ⟨suf, hsuf⟩ := hR.2.2.2.2.2
        have hsf := hsuf.1
        have hbest := hsuf.2.1
        have ho := hsuf.2.2
        clear hR hsuf
        obtain ⟨k, hkk⟩ := Int.eq_ofNat_of_zero_le hk0.1
        rw [hkk, Int.toNat_natCast] at hpos heq hbest
        have hk : k ≤ N := by omega
        rw [hkk]
        clear hk0 hkk
        have HK := Hd.mk hk
        have hol : out.length = l.length := by rw [ho]; simp [hsf]; omega
        have HC := Hd.mk hci
        clear hci
        cbv
        have hci := HC.h
        (try simp only [nc] at hci)
        refine condP.mk (fun hc2 => ?_) (fun hc2 => ?_)
        · have h0 : 0 ≤ c := by
            (try simp only [nc] at *); (try subst hA); (try subst hS); simp (disch := (refine KR.mk ?_; kernel_rfl)) only [alg, obP_iff, condP_iff, retP_iff, retM_iff, ofNat_cast, nc, Int.toNat_natCast, decide_eq_true_eq, decide_eq_false_iff_not, wrap_w64, Bool.not_eq_true', Bool.not_eq_false', beq_iff_eq, beq_eq_false_iff_ne, AV.bool.injEq, AV.int.injEq, AV.t2.injEq, AV.t3.injEq, AV.own.injEq, List.cons.injEq, Prod.mk.injEq, Row.ints.injEq, RW, Row.nlen, scalar, imp_self, and_true, true_and, lexT, heldT, tailT, planT, nb, Int.toNat_zero, List.getD_cons_zero, List.getD_cons_succ, List.set_cons_zero, List.set_cons_succ, sp2, sp, sb] at hc2
            exact hc2
          have hk := HK.h
          obtain ⟨j, hj⟩ : ∃ j, i = j + 1 := ⟨i - 1, by omega⟩
          rw [hj] at hpos heq hbest hsf
          have hcj : c.toNat = j := by omega
          have hjl : j < l.length := by omega
          have hwb := hok.hw j hjl
          obtain ⟨w, hw⟩ : ∃ w, w = l.getD j 0 := ⟨_, rfl⟩
          obtain ⟨W, hW⟩ : ∃ W, W = w.toNat := ⟨_, rfl⟩
          rw [← hw] at hwb
          have hwW : w = W := by omega
          obtain ⟨g, hgd⟩ : ∃ g, g = gd l (pl l) N j k := ⟨_, rfl⟩
          have hkW : k / W ≤ k := Nat.div_le_self _ _
          have hmst : mst W 400 k = k / W := by unfold mst; omega
          have hpk : pk l (pl l) N j k = dn g (k / W) := by rw [pk, hgd, pl_get hjl, ← hw, ← hW]; rw [show (400 : Int).toNat = 400 from rfl, hmst]
          have hle : ∀ m, m ≤ k / W ↔ m * W ≤ k := fun m => Nat.le_div_iff_mul_le (by omega)
          have H1 := Hd.mk hwW
          have H3 := Hd.mk hcj
          have H4 := Hd.mk hj
          obtain ⟨D, hD⟩ : ∃ D, D = k / W := ⟨_, rfl⟩
          rw [← hD] at hkW hpk hle
          refine obP.mk (by (try simp only [nc] at *); subst hA hS; simp (disch := (refine KR.mk ?_; kernel_rfl)) only [alg, obP_iff, condP_iff, retP_iff, retM_iff, ofNat_cast, nc, Int.toNat_natCast, decide_eq_true_eq, decide_eq_false_iff_not, wrap_w64, Bool.not_eq_true', Bool.not_eq_false', beq_iff_eq, beq_eq_false_iff_ne, AV.bool.injEq, AV.int.injEq, AV.t2.injEq, AV.t3.injEq, AV.own.injEq, List.cons.injEq, Prod.mk.injEq, Row.ints.injEq, RW, Row.nlen, scalar, imp_self, and_true, true_and, lexT, heldT, tailT, planT, nb, Int.toNat_zero, List.getD_cons_zero, List.getD_cons_succ, List.set_cons_zero, List.set_cons_succ, sp2, sp, sb]; omega) (obP.mk (by (try simp only [nc] at *); subst hA hS; simp (disch := (refine KR.mk ?_; kernel_rfl)) only [alg, obP_iff, condP_iff, retP_iff, retM_iff, ofNat_cast, nc, Int.toNat_natCast, decide_eq_true_eq, decide_eq_false_iff_not, wrap_w64, Bool.not_eq_true', Bool.not_eq_false', beq_iff_eq, beq_eq_false_iff_ne, AV.bool.injEq, AV.int.injEq, AV.t2.injEq, AV.t3.injEq, AV.own.injEq, List.cons.injEq, Prod.mk.injEq, Row.ints.injEq, RW, Row.nlen, scalar, imp_self, and_true, true_and, lexT, heldT, tailT, planT, nb, Int.toNat_zero, List.getD_cons_zero, List.getD_cons_succ, List.set_cons_zero, List.set_cons_succ, sp2, sp, sb]; rw [hcj, ← hw]; omega) ?_)
          refine loop1 (fun (m : Nat) => ⟨fr 91 [(0, .ro (.ints .i64 l)), (1, .int .i64 k), (6, .own 2 true), (7, .own 3 false), (8, .int .i64 c), (9, .int .i64 m)], [.dead, .dead, .row 3 (.ints .i64 fw), .row 3 (.ints .i64 out)]⟩)
            (fun m => m ≤ D ∧ pk l (pl l) N j k = dn g m) (fun m => m) D ?_ ?_ ?_
          · (try simp only [nc] at *); subst hA hS; simp (disch := (refine KR.mk ?_; kernel_rfl)) only [alg, obP_iff, condP_iff, retP_iff, retM_iff, ofNat_cast, nc, Int.toNat_natCast, decide_eq_true_eq, decide_eq_false_iff_not, wrap_w64, Bool.not_eq_true', Bool.not_eq_false', beq_iff_eq, beq_eq_false_iff_ne, AV.bool.injEq, AV.int.injEq, AV.t2.injEq, AV.t3.injEq, AV.own.injEq, List.cons.injEq, Prod.mk.injEq, Row.ints.injEq, RW, Row.nlen, scalar, imp_self, and_true, true_and, lexT, heldT, tailT, planT, nb, Int.toNat_zero, List.getD_cons_zero, List.getD_cons_succ, List.set_cons_zero, List.set_cons_succ, sp2, sp, sb]
            have e : (k : Int).tdiv w = (D : Int) := by rw [hD, hwW]; exact (Int.ofNat_tdiv k W).symm
            have e2 : w64 (D : Int) = D := w64_id (by omega)
            simp only [hcj, ← hw, e, e2]
            simp [Wk_iff, fr, undefs, wkT, wkV, wkH, okid, Row.nlen, getO]
          · exact ⟨Nat.le_refl _, hpk⟩
          · intro m hR
            have m1 := hR.1
            have m2 := hR.2
            clear hR
            cbv
            (try simp only [nc] at *); subst hA hS hr hfr; simp (disch := (refine KR.mk ?_; kernel_rfl)) only [alg, obP_iff, condP_iff, retP_iff, retM_iff, ofNat_cast, nc, Int.toNat_natCast, decide_eq_true_eq, decide_eq_false_iff_not, wrap_w64, Bool.not_eq_true', Bool.not_eq_false', beq_iff_eq, beq_eq_false_iff_ne, AV.bool.injEq, AV.int.injEq, AV.t2.injEq, AV.t3.injEq, AV.own.injEq, List.cons.injEq, Prod.mk.injEq, Row.ints.injEq, RW, Row.nlen, scalar, imp_self, and_true, true_and, lexT, heldT, tailT, planT, nb, Int.toNat_zero, List.getD_cons_zero, List.getD_cons_succ, List.set_cons_zero, List.set_cons_succ, sp2, sp, sb]
            have hwW := H1.h
            have hcj := H3.h
            have hj := H4.h
            (try simp only [nc] at hwW hcj hj)
            obtain ⟨X, hX⟩ : ∃ X, X = m * W := ⟨_, rfl⟩
            have hXk : X ≤ k := by rw [hX]; exact (hle m).1 m1
            have hmX : m ≤ X := by rw [hX]; exact Nat.le_mul_of_pos_right m (by omega)
            have hmw : (m : Int) * w = (X : Int) := by rw [hwW, hX]; simp
            have w1 : w64 ((m : Int) * w) = (X : Int) := by rw [hmw, w64_id (by omega)]
            have w2 : w64 ((k : Int) - (X : Int)) = ((k - X : Nat) : Int) := by rw [w64_id (by omega)]; omega
            have w3 : w64 (((k - X + 1 : Nat) : Int) - 1) = ((k - X : Nat) : Int) := by rw [w64_id (by omega)]; omega
            have w4 : w64 ((m : Int) - 1) = (m : Int) - 1 := w64_id (by omega)
            have wc : w64 (c - 1) = c - 1 := w64_id (by omega)
            have htf := take_few hw1 hN4 (i := j) (y := k - X) (by omega) (by omega)
            have hr := rowF_fit (st := pl l) hw1 N j (by omega) (k - X) (by rw [rowF_len]; omega)
            have hT : wOk (l.take j) ((k - X : Nat) : Int) := take_ok hok (by omega) (by omega)
            have hfl : fw.length = N + 1 := by rw [hfw, fwF_len]
            obtain ⟨r, hrr⟩ : ∃ r, r = (rowF l (pl l) N j).getD (k - X) 0 := ⟨_, rfl⟩
            rw [← hrr] at htf hr
            have w5 : w64 (r + (m : Int)) = r + m := w64_id (by omega)
            simp only [hcj, ← hw, List.drop_zero, w1, w2, Int.toNat_natCast, fwF_len, w3, htf, w5]
            have hgm : (decide (0 ≤ r) && (r + (m : Int) == fw.getD k 0)) = g m := by
              rw [hgd, gd, ← hw, ← hW, ← hX, ← hrr, heq, Bool.eq_iff_iff]
              simp only [Bool.and_eq_true, decide_eq_true_eq, beq_iff_eq]
            rw [hgm]
            refine ⟨fun h0m => ⟨by omega, by omega, by omega, hT, by omega, fun _ => by omega, fun ht => ?_, fun hf => ?_⟩, fun h0m => ?_⟩
            · have hpkm : pk l (pl l) N j k = m := by rw [m2, dn_t ht]
              have hgt := ht
              rw [← hgm, Bool.and_eq_true, decide_eq_true_eq, beq_iff_eq, heq] at hgt
              have hst := all_step (m := m) hw1 hN4 hjl hk (by rw [← hw, ← hW, ← hX]; exact hXk) (by rw [← hfw]; exact heq) (by rw [← hw, ← hW, ← hX, ← hrr]; exact hgt.1) (by rw [← hw, ← hW, ← hX, ← hrr]; exact hgt.2)
              rw [← hw, ← hW, ← hX, ← hrr, ← hfw] at hst
              refine ⟨by omega, by omega, j, c - 1, ((k - X : Nat) : Int), out.set j (m : Int), ?_, ⟨by omega, by omega, by omega, ?_, ?_, (m : Int) :: suf, ?_, ?_, ?_⟩, by omega⟩
              · simp only [wc]
                simp [Wk_iff, fr, undefs, wkT, wkV, wkH, okid, Row.nlen, getO]
              · rw [Int.toNat_natCast, ← hrr]; exact hgt.1
              · rw [Int.toNat_natCast, hst, ← hrr]
              · simp; omega
              · rw [Int.toNat_natCast, hbest, bs, lf, hpkm, ← hw, ← hW, ← hX]; simp
              · rw [ho, hj, ← d_rep_snoc, List.append_assoc, List.singleton_append, d_app_set _ _ _ _ _ (by simp)]
            · obtain ⟨m', hm'⟩ : ∃ m', m = m' + 1 := ⟨m - 1, by omega⟩
              have w6 : w64 ((m : Int) - 1) = (m' : Int) := by rw [w64_id (by omega)]; omega
              refine ⟨m', ?_, ⟨by omega, by rw [m2, hm', dn_f (by rw [← hm']; exact hf)]⟩, by omega⟩
              simp only [w6]
              simp [Wk_iff, fr, undefs, wkT, wkV, wkH, okid, Row.nlen, getO]
            · have hm0 : m = 0 := by omega
              have hpkm : pk l (pl l) N j k = 0 := by rw [m2, hm0]; rfl
              have hlf := lf_pos hk hpos
              have hgg := pk_gd hk hpos
              rw [hpkm] at hgg
              simp only [gd, Nat.zero_mul, Nat.sub_zero, Bool.and_eq_true, decide_eq_true_eq] at hgg
              rw [lf, hpkm, Nat.zero_mul, Nat.sub_zero] at hlf
              refine ⟨j, c - 1, (k : Int), out, ?_, ⟨by omega, by omega, by omega, ?_, ?_, (0 : Int) :: suf, ?_, ?_, ?_⟩, by omega⟩
              · simp only [wc]
                simp [Wk_iff, fr, undefs, wkT, wkV, wkH, okid, Row.nlen, getO]
              · rw [Int.toNat_natCast]; exact hlf
              · rw [Int.toNat_natCast, heq]; have := hgg.2; omega
              · simp; omega
              · rw [Int.toNat_natCast, hbest, bs, lf, hpkm, Nat.zero_mul, Nat.sub_zero]; simp
              · rw [ho, hj, ← d_rep_snoc, List.append_assoc, List.singleton_append]
        · have h0 : ¬ 0 ≤ c := by
            (try simp only [nc] at *); (try subst hA); (try subst hS); simp (disch := (refine KR.mk ?_; kernel_rfl)) only [alg, obP_iff, condP_iff, retP_iff, retM_iff, ofNat_cast, nc, Int.toNat_natCast, decide_eq_true_eq, decide_eq_false_iff_not, wrap_w64, Bool.not_eq_true', Bool.not_eq_false', beq_iff_eq, beq_eq_false_iff_ne, AV.bool.injEq, AV.int.injEq, AV.t2.injEq, AV.t3.injEq, AV.own.injEq, List.cons.injEq, Prod.mk.injEq, Row.ints.injEq, RW, Row.nlen, scalar, imp_self, and_true, true_and, lexT, heldT, tailT, planT, nb, Int.toNat_zero, List.getD_cons_zero, List.getD_cons_succ, List.set_cons_zero, List.set_cons_succ, sp2, sp, sb] at hc2
            exact hc2
          have hi : i = 0 := by omega
          (try simp only [nc] at *); subst hA hS hr hfr; simp (disch := (refine KR.mk ?_; kernel_rfl)) only [alg, obP_iff, condP_iff, retP_iff, retM_iff, ofNat_cast, nc, Int.toNat_natCast, decide_eq_true_eq, decide_eq_false_iff_not, wrap_w64, Bool.not_eq_true', Bool.not_eq_false', beq_iff_eq, beq_eq_false_iff_ne, AV.bool.injEq, AV.int.injEq, AV.t2.injEq, AV.t3.injEq, AV.own.injEq, List.cons.injEq, Prod.mk.injEq, Row.ints.injEq, RW, Row.nlen, scalar, imp_self, and_true, true_and, lexT, heldT, tailT, planT, nb, Int.toNat_zero, List.getD_cons_zero, List.getD_cons_succ, List.set_cons_zero, List.set_cons_succ, sp2, sp, sb]
          rw [hv2, hv1, ho, hbest, hi]
          simp [bs]
  · have hf : (!(!(askB l n))) = false := by subst hA hS; exact hg
    rw [Bool.not_not] at hf
    have hb : ∀ {b : Bool}, b = false → (!(!b)) = false := fun h => by rw [h]; rfl
    refine obP.mk (by subst hA hS; exact hb hf) (obP.mk (by subst hA hS; exact hb hf) (obP.mk (by subst hA hS; exact hb hf) (obP.mk (by subst hA hS; exact hb hf) (obP.mk (by subst hA hS; exact fun h => absurd (hb hf) (by rw [show (!(!(askB l n))) = true from h]; simp)) (condP.mk (fun hc => ?_) (fun hc => ?_))))))
    · (try simp only [nc] at *); subst hA hS hr hfr; simp (disch := (refine KR.mk ?_; kernel_rfl)) only [alg, obP_iff, condP_iff, retP_iff, retM_iff, ofNat_cast, nc, Int.toNat_natCast, decide_eq_true_eq, decide_eq_false_iff_not, wrap_w64, Bool.not_eq_true', Bool.not_eq_false', beq_iff_eq, beq_eq_false_iff_ne, AV.bool.injEq, AV.int.injEq, AV.t2.injEq, AV.t3.injEq, AV.own.injEq, List.cons.injEq, Prod.mk.injEq, Row.ints.injEq, RW, Row.nlen, scalar, imp_self, and_true, true_and, lexT, heldT, tailT, planT, nb, Int.toNat_zero, List.getD_cons_zero, List.getD_cons_succ, List.set_cons_zero, List.set_cons_succ, sp2, sp, sb]
      simp [fwL, fwB, hf]
    · exfalso
      (try simp only [nc] at *); (try subst hA); (try subst hS); simp (disch := (refine KR.mk ?_; kernel_rfl)) only [alg, obP_iff, condP_iff, retP_iff, retM_iff, ofNat_cast, nc, Int.toNat_natCast, decide_eq_true_eq, decide_eq_false_iff_not, wrap_w64, Bool.not_eq_true', Bool.not_eq_false', beq_iff_eq, beq_eq_false_iff_ne, AV.bool.injEq, AV.int.injEq, AV.t2.injEq, AV.t3.injEq, AV.own.injEq, List.cons.injEq, Prod.mk.injEq, Row.ints.injEq, RW, Row.nlen, scalar, imp_self, and_true, true_and, lexT, heldT, tailT, planT, nb, Int.toNat_zero, List.getD_cons_zero, List.getD_cons_succ, List.set_cons_zero, List.set_cons_succ, sp2, sp, sb] at hc
      rw [hf] at hc
      simp at hc
def W1 (S : Sp3) : List (Nat × (List AV → CR)) :=
  (28, fun args => match args with | [.ro (.ints .i64 l), .int .i64 n] => .pure (S.sm l) (.t2 (.own 0 true) (.bool (S.fwB l n))) [(3, .ints .i64 (S.fwL l n))] | _ => .no) ::
  (27, fun args => match args with | [.ro (.ints .i64 l), .int .i64 n] => .pure (S.sm l) (.t2 (.own 0 true) (.bool (S.fwB l n))) [(3, .ints .i64 (S.fwL l n))] | _ => .no) ::
  V1 S.toSp2
set_option maxRecDepth 100000 in
theorem W1_ok : TabOK Try.prog (tfind (W1 sp3)) := by
  refine tab_cons (fun args => ?_) (tab_cons (fun args => ?_) (V1_ok))
  · split
    · exact ent_pure fun h => implFew_ok _ _ h
    · exact ent_no
  · split
    · exact ent_pure fun h => specFew_ok _ _ h
    · exact ent_no
set_option maxRecDepth 100000 in
theorem lawFewestSpaces (l : List Int) (n : Int) : FC Try.prog 9 [.ro (.ints .i64 l), .int .i64 n] (.bool true) [] := by
  refine fc_eval sp3 W1 W1_ok hT hm Try.func9 rfl (by kernel_rfl) rfl rfl ?_
  intro A S r0 fr0 hA hS hr hfr
  cbv
  (try simp only [nc] at *); subst hA hS hr hfr; simp (disch := (refine KR.mk ?_; kernel_rfl)) only [alg, obP_iff, condP_iff, retP_iff, retM_iff, ofNat_cast, nc, Int.toNat_natCast, decide_eq_true_eq, decide_eq_false_iff_not, wrap_w64, Bool.not_eq_true', Bool.not_eq_false', beq_iff_eq, beq_eq_false_iff_ne, AV.bool.injEq, AV.int.injEq, AV.t2.injEq, AV.t3.injEq, AV.own.injEq, List.cons.injEq, Prod.mk.injEq, Row.ints.injEq, RW, Row.nlen, scalar, imp_self, and_true, true_and, lexT, heldT, tailT, planT, nb, Int.toNat_zero, List.getD_cons_zero, List.getD_cons_succ, List.set_cons_zero, List.set_cons_succ, sp3, sp2, sp, sb, eqL]
  have hm : (fwL l n).length ≤ 1048576 := by
    unfold fwL; split
    · rename_i hf
      simp only [fwB, Bool.and_eq_true] at hf
      have := ask_split hf.1
      rw [bestL, bs_len]; omega
    · simp
  simp [upFrom_len, heldL_up]
  try omega
end Go.Proofs.Ytjkkjfnkcfaigaa
