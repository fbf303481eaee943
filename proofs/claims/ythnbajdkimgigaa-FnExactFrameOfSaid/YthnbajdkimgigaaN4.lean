/-
  Rules one after the other: frames; the laws.
-/
import Derived.Test.YthnbajdkimgigaaN3
import Derived.Test.YthnbajdkimgigaaAb20
set_option linter.unusedSimpArgs false
set_option linter.unusedVariables false
namespace Go.Proofs.Ythnbajdkimgigaa
open Go.Ab

def fw (n c : Int) : Int := w64 (n - w64 (2 * c))
def foN (wd hi co : Int) : List Int := [fw wd co, fw wd co, fw hi co, fw hi co]
def foO (wd hi co : Int) : Bool := decide (wd ≤ 400) && decide (hi ≤ 400) && inR co 0 50
def foB (l : List (List Int)) (wd hi co : Int) : Bool := foO wd hi co && rzB l (foN wd hi co)
def foV (l : List (List Int)) (wd hi co : Int) : List (List Int) := if foO wd hi co then rzV l (foN wd hi co) else []
theorem foN_len (wd hi co : Int) : (foN wd hi co).length = 4 := rfl
theorem fw_eq {n c : Int} (hn : i64w n) (hc : 0 ≤ c ∧ c ≤ 50) (h : 1 ≤ fw n c) (h4 : fw n c ≤ 400) : fw n c = n - 2 * c := by
  unfold i64w at hn
  unfold fw at *
  rw [w64_id (n := 2 * c) (by omega)] at *
  rw [w64_eq] at *
  omega
/-- What the specification asks. -/
def foS (l : List (List Int)) (wd hi co : Int) : Bool := (stB l && inR wd 1 400 && inR hi 1 400 && inR co 0 50) && (decide (1 ≤ fw wd co) && decide (1 ≤ fw hi co))
theorem foS_yes {l : List (List Int)} {wd hi co : Int} (hw : i64w wd) (hh : i64w hi) (h : foS l wd hi co = true) : foO wd hi co = true ∧ rkB l (foN wd hi co) = true := by
  simp only [foS, Bool.and_eq_true, inR_iff, decide_eq_true_eq] at h
  obtain ⟨⟨⟨⟨h1, h2⟩, h3⟩, h4⟩, h5, h6⟩ := h
  have e1 : fw wd co = wd - 2 * co := by
    unfold fw; rw [w64_id (n := 2 * co) (by omega), w64_id (by omega)]
  have e2 : fw hi co = hi - 2 * co := by
    unfold fw; rw [w64_id (n := 2 * co) (by omega), w64_id (by omega)]
  refine ⟨by simp only [foO, Bool.and_eq_true, inR_iff, decide_eq_true_eq]; omega, ?_⟩
  simp only [rkB, foN, Bool.and_eq_true, decide_eq_true_eq, allR, List.all_cons, List.all_nil, inR_iff]
  refine ⟨⟨h1, by simp⟩, ?_⟩
  repeat' apply And.intro
  all_goals first | omega | rfl | trivial
theorem foS_no {l : List (List Int)} {wd hi co : Int} (hw : i64w wd) (hh : i64w hi) (h : foS l wd hi co = false) : foB l wd hi co = false ∧ foV l wd hi co = [] := by
  by_cases ho : foO wd hi co = true
  · have hk : rkB l (foN wd hi co) = false := by
      cases hb : rkB l (foN wd hi co) with
      | false => rfl
      | true =>
        exfalso
        have hf : foS l wd hi co = true := by
          simp only [rkB, foN, Bool.and_eq_true, decide_eq_true_eq, allR, List.all_cons, List.all_nil, inR_iff] at hb
          simp only [foO, Bool.and_eq_true, inR_iff, decide_eq_true_eq] at ho
          have e1 := fw_eq hw ho.2 (by omega) (by omega)
          have e2 := fw_eq hh ho.2 (by omega) (by omega)
          simp only [foS, Bool.and_eq_true, inR_iff, decide_eq_true_eq]
          refine ⟨⟨⟨⟨hb.1.1, ?_⟩, ?_⟩, ?_⟩, ?_⟩ <;> omega
        rw [h] at hf; cases hf
    simp [foB, foV, rzB, rzV, hk]
  · have ho : foO wd hi co = false := by simpa using ho
    simp [foB, foV, ho]
theorem foV_sm (l : List (List Int)) (wd hi co : Int) : smT (foV l wd hi co) := by
  unfold foV; split
  · exact rzV_sm _ _
  · exact ⟨by simp, by simp⟩
structure Sn extends Sq where
  foB : List (List Int) → Int → Int → Int → Bool
  foV : List (List Int) → Int → Int → Int → List (List Int)
  i6 : Int → Prop
def sn : Sn := { sq with foB := foB, foV := foV, i6 := i64w }
def M0 (S : Sn) : List (Nat × (List AV → CR)) :=
  N3 S.toSq
set_option maxRecDepth 100000 in
theorem M0_ok : TabOK Try.prog (tfind (M0 sn)) := by
  refine N3_ok
def M1 (S : Sn) : List (Nat × (List AV → CR)) :=
  (16, fun args => match args with | [.ro (.recs 2 l), .ro (.ints .i64 c)] => .pure (S.lm l ∧ S.sm c) (.t2 (.own 0 false) (.bool (S.rzB l c))) [(34, .tabs (S.rzV l c))] | _ => .no) ::
  (14, fun args => match args with | [.ro (.recs 2 l), .ro (.ints .i64 c)] => .pure (S.lm l ∧ S.sm c) (.t2 (.own 0 true) (.bool (S.rzB l c))) [(34, .intss (S.rzV l c))] | _ => .no) ::
  (9, fun args => match args with | [.ro (.intss a), .ro (.intss b)] => .pure (S.smT a) (.bool (S.eqLL a b)) [] | _ => .no) ::
  (12, fun args => match args with | [.ro (.intss a), .int .i64 k] => .mut 0 (S.smT a ∧ S.kq k) (.int .i64 (S.totK a k)) (.tabs (S.upLL a k)) | _ => .no) ::
  (13, fun args => match args with | [.ro (.intss a), .int .i64 k] => .pure (S.smT a ∧ S.kq k) (.int .i64 (S.heldLL a k)) [] | _ => .no) ::
  M0 S
set_option maxRecDepth 100000 in
theorem M1_ok : TabOK Try.prog (tfind (M1 sn)) := by
  refine tab_cons (fun args => ?_) (tab_cons (fun args => ?_) (tab_cons (fun args => ?_) (tab_cons (fun args => ?_) (tab_cons (fun args => ?_) (M0_ok)))))
  · split
    · exact ent_pure fun h => implRZ_ok _ _ h.1 h.2
    · exact ent_no
  · split
    · exact ent_pure fun h => specRZ_ok _ _ h.1 h.2
    · exact ent_no
  · split
    · exact ent_pure fun h => eqLL_ok _ _ h
    · exact ent_no
  · split
    · exact ent_mut fun h => markLL_ok _ _ h.1 h.2
    · exact ent_no
  · split
    · exact ent_pure fun h => heldLL_ok _ _ h.1 h.2
    · exact ent_no
set_option maxRecDepth 100000 in
theorem implFO_ok (l : List (List Int)) (wd hi co : Int) (hl : l.length ≤ 1048576) : FC Try.prog 8 [.ro (.recs 2 l), .int .i64 wd, .int .i64 hi, .int .i64 co] (.t2 (.own 0 false) (.bool (foB l wd hi co))) [(34, .tabs (foV l wd hi co))] := by
  refine fc_eval sn M1 M1_ok hTT hm Try.func8 rfl (by kernel_rfl) rfl rfl ?_
  intro A S r0 fr0 hA hS hr hfr
  cbv
  have hcd : (decide (400 < wd) || decide (400 < hi) || !(inR co 0 50)) = !(foO wd hi co) := by
    rw [Bool.eq_iff_iff]
    simp only [foO, Bool.or_eq_true, Bool.not_eq_true', decide_eq_true_eq, Bool.and_eq_false_iff, decide_eq_false_iff_not]
    constructor
    · rintro ((h | h) | h)
      · exact .inl (.inl (by omega))
      · exact .inl (.inr (by omega))
      · exact .inr h
    · rintro ((h | h) | h)
      · exact .inl (.inl (by omega))
      · exact .inl (.inr (by omega))
      · exact .inr h
  iterate 6 refine obP.mk (by subst hA; first | exact fun _ => trivial | exact fun h => h) ?_
  refine condP.mk (fun hc => ?_) (fun hc => ?_)
  · have hf : (decide (400 < wd) || decide (400 < hi) || !(inR co 0 50)) = true := by subst hA hS; exact hc
    rw [hcd, Bool.not_eq_true'] at hf
    (try simp only [nc] at *); subst hA hS hr hfr; simp (disch := (refine KR.mk ?_; kernel_rfl)) only [alg, obP_iff, condP_iff, retP_iff, retM_iff, ofNat_cast, nc, Int.toNat_natCast, decide_eq_true_eq, decide_eq_false_iff_not, wrap_w64, retS_iff, Bool.not_eq_true', Bool.not_eq_false', beq_iff_eq, beq_eq_false_iff_ne, AV.bool.injEq, AV.int.injEq, AV.t2.injEq, AV.t3.injEq, AV.own.injEq, List.cons.injEq, Prod.mk.injEq, Row.ints.injEq, RW, Row.nlen, scalar, imp_self, and_true, true_and, lexT, heldT, tailT, planT, nb, Int.toNat_zero, List.getD_cons_zero, List.getD_cons_succ, List.set_cons_zero, List.set_cons_succ, sn, sq, sp3, sp2, sp, sb]
    simp [foB, foV, hf]
  · have hf : (decide (400 < wd) || decide (400 < hi) || !(inR co 0 50)) = false := by subst hA hS; exact hc
    rw [hcd, Bool.not_eq_false'] at hf
    refine obP.mk (by subst hA hS; exact ⟨hl, by show (4 : Nat) ≤ 1048576; decide⟩) ?_
    (try simp only [nc] at *); subst hA hS hr hfr; simp (disch := (refine KR.mk ?_; kernel_rfl)) only [alg, obP_iff, condP_iff, retP_iff, retM_iff, ofNat_cast, nc, Int.toNat_natCast, decide_eq_true_eq, decide_eq_false_iff_not, wrap_w64, retS_iff, Bool.not_eq_true', Bool.not_eq_false', beq_iff_eq, beq_eq_false_iff_ne, AV.bool.injEq, AV.int.injEq, AV.t2.injEq, AV.t3.injEq, AV.own.injEq, List.cons.injEq, Prod.mk.injEq, Row.ints.injEq, RW, Row.nlen, scalar, imp_self, and_true, true_and, lexT, heldT, tailT, planT, nb, Int.toNat_zero, List.getD_cons_zero, List.getD_cons_succ, List.set_cons_zero, List.set_cons_succ, sn, sq, sp3, sp2, sp, sb]
    have e : [w64 (wd - w64 (2 * co)), w64 (wd - w64 (2 * co)), w64 (hi - w64 (2 * co)), w64 (hi - w64 (2 * co))] = foN wd hi co := rfl
    simp only [e]
    exact ⟨by simp [foB, hf], by simp [foV, hf]⟩
set_option maxRecDepth 100000 in
theorem specFO_ok (l : List (List Int)) (wd hi co : Int) (hl : l.length ≤ 1048576) (hw : i64w wd) (hh : i64w hi) : FC Try.prog 6 [.ro (.recs 2 l), .int .i64 wd, .int .i64 hi, .int .i64 co] (.t2 (.own 0 true) (.bool (foB l wd hi co))) [(34, .intss (foV l wd hi co))] := by
  refine fc_eval sn M0 M0_ok hT hm Try.func6 rfl (by kernel_rfl) rfl rfl ?_
  intro A S r0 fr0 hA hS hr hfr
  cbv
  refine obP.mk (by subst hA hS; exact hl) ?_
  iterate 12 refine obP.mk (by subst hA; first | exact fun _ => trivial | exact fun h => h) ?_
  refine condP.mk (fun hc => ?_) (fun hc => ?_)
  · have hf : (!(stB l) || !(inR wd 1 400) || !(inR hi 1 400) || !(inR co 0 50)) = true := by subst hA hS; exact hc
    have hn : foS l wd hi co = false := by
      cases hb : foS l wd hi co with
      | false => rfl
      | true =>
        simp only [foS, Bool.and_eq_true] at hb
        obtain ⟨⟨⟨⟨h1, h2⟩, h3⟩, h4⟩, _⟩ := hb
        rw [h1, h2, h3, h4] at hf
        cases hf
    obtain ⟨z1, z2⟩ := foS_no hw hh hn
    (try simp only [nc] at *); subst hA hS hr hfr; simp (disch := (refine KR.mk ?_; kernel_rfl)) only [alg, obP_iff, condP_iff, retP_iff, retM_iff, ofNat_cast, nc, Int.toNat_natCast, decide_eq_true_eq, decide_eq_false_iff_not, wrap_w64, retS_iff, Bool.not_eq_true', Bool.not_eq_false', beq_iff_eq, beq_eq_false_iff_ne, AV.bool.injEq, AV.int.injEq, AV.t2.injEq, AV.t3.injEq, AV.own.injEq, List.cons.injEq, Prod.mk.injEq, Row.ints.injEq, RW, Row.nlen, scalar, imp_self, and_true, true_and, lexT, heldT, tailT, planT, nb, Int.toNat_zero, List.getD_cons_zero, List.getD_cons_succ, List.set_cons_zero, List.set_cons_succ, sn, sq, sp3, sp2, sp, sb]
    simp [z1, z2]
  · have hf : (!(stB l) || !(inR wd 1 400) || !(inR hi 1 400) || !(inR co 0 50)) = false := by subst hA hS; exact hc
    have hall : stB l = true ∧ inR wd 1 400 = true ∧ inR hi 1 400 = true ∧ inR co 0 50 = true := by
      simp only [Bool.or_eq_false_iff, Bool.not_eq_false'] at hf
      exact ⟨hf.1.1.1, hf.1.1.2, hf.1.2, hf.2⟩
    iterate 2 refine obP.mk (by subst hA; first | exact fun _ => trivial | exact fun h => h) ?_
    refine condP.mk (fun hc2 => ?_) (fun hc2 => ?_)
    · have hg : (decide (fw wd co < 1) || decide (fw hi co < 1)) = true := by subst hA hS; exact hc2
      have hn : foS l wd hi co = false := by
        cases hb : foS l wd hi co with
        | false => rfl
        | true =>
          simp only [foS, Bool.and_eq_true, decide_eq_true_eq] at hb
          simp only [Bool.or_eq_true, decide_eq_true_eq] at hg
          omega
      obtain ⟨z1, z2⟩ := foS_no hw hh hn
      (try simp only [nc] at *); subst hA hS hr hfr; simp (disch := (refine KR.mk ?_; kernel_rfl)) only [alg, obP_iff, condP_iff, retP_iff, retM_iff, ofNat_cast, nc, Int.toNat_natCast, decide_eq_true_eq, decide_eq_false_iff_not, wrap_w64, retS_iff, Bool.not_eq_true', Bool.not_eq_false', beq_iff_eq, beq_eq_false_iff_ne, AV.bool.injEq, AV.int.injEq, AV.t2.injEq, AV.t3.injEq, AV.own.injEq, List.cons.injEq, Prod.mk.injEq, Row.ints.injEq, RW, Row.nlen, scalar, imp_self, and_true, true_and, lexT, heldT, tailT, planT, nb, Int.toNat_zero, List.getD_cons_zero, List.getD_cons_succ, List.set_cons_zero, List.set_cons_succ, sn, sq, sp3, sp2, sp, sb]
      simp [z1, z2]
    · have hg : (decide (fw wd co < 1) || decide (fw hi co < 1)) = false := by subst hA hS; exact hc2
      have hy : foS l wd hi co = true := by
        simp only [Bool.or_eq_false_iff, decide_eq_false_iff_not] at hg
        simp only [foS, Bool.and_eq_true, decide_eq_true_eq]
        exact ⟨⟨⟨⟨hall.1, hall.2.1⟩, hall.2.2.1⟩, hall.2.2.2⟩, by omega, by omega⟩
      obtain ⟨y1, y2⟩ := foS_yes hw hh hy
      refine obP.mk (by subst hA hS; exact rk_ru y2) ?_
      (try simp only [nc] at *); subst hA hS hr hfr; simp (disch := (refine KR.mk ?_; kernel_rfl)) only [alg, obP_iff, condP_iff, retP_iff, retM_iff, ofNat_cast, nc, Int.toNat_natCast, decide_eq_true_eq, decide_eq_false_iff_not, wrap_w64, retS_iff, Bool.not_eq_true', Bool.not_eq_false', beq_iff_eq, beq_eq_false_iff_ne, AV.bool.injEq, AV.int.injEq, AV.t2.injEq, AV.t3.injEq, AV.own.injEq, List.cons.injEq, Prod.mk.injEq, Row.ints.injEq, RW, Row.nlen, scalar, imp_self, and_true, true_and, lexT, heldT, tailT, planT, nb, Int.toNat_zero, List.getD_cons_zero, List.getD_cons_succ, List.set_cons_zero, List.set_cons_succ, sn, sq, sp3, sp2, sp, sb]
      have e : [w64 (wd - w64 (2 * co)), w64 (wd - w64 (2 * co)), w64 (hi - w64 (2 * co)), w64 (hi - w64 (2 * co))] = foN wd hi co := rfl
      simp only [e]
      exact ⟨by simp [foB, rzB, y1, y2], by simp [foV, rzV, y1, y2]⟩
def M2 (S : Sn) : List (Nat × (List AV → CR)) :=
  (8, fun args => match args with | [.ro (.recs 2 l), .int .i64 wd, .int .i64 hi, .int .i64 co] => .pure (S.lm l) (.t2 (.own 0 false) (.bool (S.foB l wd hi co))) [(34, .tabs (S.foV l wd hi co))] | _ => .no) ::
  (6, fun args => match args with | [.ro (.recs 2 l), .int .i64 wd, .int .i64 hi, .int .i64 co] => .pure (S.lm l ∧ S.i6 wd ∧ S.i6 hi) (.t2 (.own 0 true) (.bool (S.foB l wd hi co))) [(34, .intss (S.foV l wd hi co))] | _ => .no) ::
  M1 S
set_option maxRecDepth 100000 in
theorem M2_ok : TabOK Try.prog (tfind (M2 sn)) := by
  refine tab_cons (fun args => ?_) (tab_cons (fun args => ?_) (M1_ok))
  · split
    · exact ent_pure fun h => implFO_ok _ _ _ _ h
    · exact ent_no
  · split
    · exact ent_pure fun h => specFO_ok _ _ _ _ h.1 h.2.1 h.2.2
    · exact ent_no
set_option maxRecDepth 100000 in
theorem lawRulesOf (l : List (List Int)) (ns : List Int) (h2 : rec2 l) (hmx : l.length ≤ 9223372036854775807) : FC Try.prog 4 [.ro (.recs 2 l), .ro (.ints .i64 ns)] (.bool true) [] := by
  refine fc_eval sn M2 M2_ok hT hm Try.func4 rfl (by kernel_rfl) rfl rfl ?_
  intro A S r0 fr0 hA hS hr hfr
  cbv
  (try simp only [nc] at *); subst hA hS hr hfr; simp (disch := (refine KR.mk ?_; kernel_rfl)) only [alg, obP_iff, condP_iff, retP_iff, retM_iff, ofNat_cast, nc, Int.toNat_natCast, decide_eq_true_eq, decide_eq_false_iff_not, wrap_w64, retS_iff, Bool.not_eq_true', Bool.not_eq_false', beq_iff_eq, beq_eq_false_iff_ne, AV.bool.injEq, AV.int.injEq, AV.t2.injEq, AV.t3.injEq, AV.own.injEq, List.cons.injEq, Prod.mk.injEq, Row.ints.injEq, RW, Row.nlen, scalar, imp_self, and_true, true_and, lexT, heldT, tailT, planT, nb, Int.toNat_zero, List.getD_cons_zero, List.getD_cons_succ, List.set_cons_zero, List.set_cons_succ, sn, sq, sp3, sp2, sp, sb, eqL, eqRL]
  refine ⟨fun _ => trivial, fun h1 => ⟨fun _ => trivial, fun hs => ?_⟩⟩
  have hl := sz_pos hmx hs
  have hv := rzV_sm l ns
  have hvu := smT_up (k := 1) hv
  have hht := heldLL_up (rzV l ns) 1 (by omega)
  have htb := totL_bd _ hv.2
  have hns : ns.length ≤ 1048576 := by omega
  have hneg : ¬ 1 + totL (rzV l ns) < 0 := by omega
  simp [h2, hl, hns, hv, hvu, hht, hneg, eqLL]
  try omega
set_option maxRecDepth 100000 in
theorem lawFrameOf (l : List (List Int)) (wd hi co : Int) (h2 : rec2 l) (hmx : l.length ≤ 9223372036854775807) (_ : ∀ x ∈ l, ∀ y ∈ x, i64w y) (hw : i64w wd) (hh : i64w hi) (_ : i64w co) : FC Try.prog 3 [.ro (.recs 2 l), .int .i64 wd, .int .i64 hi, .int .i64 co] (.bool true) [] := by
  refine fc_eval sn M2 M2_ok hT hm Try.func3 rfl (by kernel_rfl) rfl rfl ?_
  intro A S r0 fr0 hA hS hr hfr
  cbv
  (try simp only [nc] at *); subst hA hS hr hfr; simp (disch := (refine KR.mk ?_; kernel_rfl)) only [alg, obP_iff, condP_iff, retP_iff, retM_iff, ofNat_cast, nc, Int.toNat_natCast, decide_eq_true_eq, decide_eq_false_iff_not, wrap_w64, retS_iff, Bool.not_eq_true', Bool.not_eq_false', beq_iff_eq, beq_eq_false_iff_ne, AV.bool.injEq, AV.int.injEq, AV.t2.injEq, AV.t3.injEq, AV.own.injEq, List.cons.injEq, Prod.mk.injEq, Row.ints.injEq, RW, Row.nlen, scalar, imp_self, and_true, true_and, lexT, heldT, tailT, planT, nb, Int.toNat_zero, List.getD_cons_zero, List.getD_cons_succ, List.set_cons_zero, List.set_cons_succ, sn, sq, sp3, sp2, sp, sb, eqL, eqRL]
  refine ⟨fun _ => trivial, fun hs => ?_⟩
  have hl := sz_pos hmx hs
  have hv := foV_sm l wd hi co
  have hvu := smT_up (k := 1) hv
  have hht := heldLL_up (foV l wd hi co) 1 (by omega)
  have htb := totL_bd _ hv.2
  have hneg : ¬ 1 + totL (foV l wd hi co) < 0 := by omega
  simp [h2, hl, hw, hh, hv, hvu, hht, hneg, eqLL]
  try omega
end Go.Proofs.Ythnbajdkimgigaa
