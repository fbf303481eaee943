/-
  The stock's text: both sides; the law.
-/
import Derived.Test.YtmhbpaijlbmmlaaDoorK1
set_option linter.unusedSimpArgs false
set_option linter.unusedVariables false
namespace Go.Proofs.YtmhbpaijlbmmlaaDoor
open Go.Ab Go.RowKit

theorem cells2 : ∀ (l : List (List Int)), rec2 l → ∀ i, i < l.length →
    (l.flatMap (fun x => x.map (Value.int .i64)))[i * 2]? = some (.int .i64 (fL l i)) ∧ (l.flatMap (fun x => x.map (Value.int .i64)))[i * 2 + 1]? = some (.int .i64 (fC l i))
  | [], _, i, hi => by simp at hi
  | x :: r, h, i, hi => by
    obtain ⟨a, b, rfl⟩ : ∃ a b, x = [a, b] := by
      have := h x (by simp)
      match x, this with
      | [a, b], _ => exact ⟨a, b, rfl⟩
    cases i with
    | zero => simp [fL, fC]
    | succ i =>
      have ih := cells2 r (fun y hy => h y (by simp [hy])) i (by simpa using hi)
      have e1 : (i + 1) * 2 = i * 2 + 2 := by omega
      simp only [List.flatMap_cons, List.map_cons, List.map_nil, List.cons_append, List.nil_append, e1]
      exact ih
theorem add_one (ad : Addr) (k : Nat) : (⟨(ad.add k).block, (ad.add k).off + 1, none⟩ : Addr) = ad.add (k + 1) := by
  unfold Addr.add
  by_cases h : k = 0
  · simp [h]
  · simp [h]; omega
theorem stockTxt_ok (l : List (List Int)) (h2 : rec2 l) (hst : stB l = true) : FCG gW Tryd.prog 19 [.ro (.recs 2 l)] (.str (txS l)) [] := by
  have hbd : ¬ Tryd.f19.body = none := by
    intro h
    have h2 : Tryd.f19.body.isNone = false := by kernel_rfl
    rw [h] at h2
    cases h2
  refine ⟨⟨Tryd.f19, Tryd.func19, (by decide +kernel), hbd⟩, fun w vals hw hv => ?_⟩
  match vals, hv with
  | [v], hv =>
    obtain ⟨hv, _⟩ := hv
    obtain ⟨a, cap, cs, rfl, hc1, hc2, hr, ha⟩ : ROw w (fun _ => True) (.recs 2 l) v := hv
    obtain ⟨_, rfl⟩ := hr
    have hn : nl (.recs 2 l) = l.length := rfl
    rw [hn] at ha ⊢
    refine (walkT l a cap w hw hst (fun hp => ?_)).mono ?_
    · obtain ⟨ad, h1, h3, _, h4⟩ := ha hp
      refine ⟨ad, h1, fun i hi => by rw [add_block]; exact h3, fun i hi => h4 _ _ (cells2 l h2 i hi).1, fun i hi => ?_⟩
      rw [add_one]; exact h4 (i * 2 + 1) _ (cells2 l h2 i hi).2
    · rintro e w' ⟨rfl, hb⟩
      refine ⟨_, [], rfl, hb, ⟨rfl, ?_, ?_, rfl⟩⟩
      · intro o loc E row h; cases h.1
      · intro o o' loc loc' E E' r r' h; cases h.1

structure Sk extends Sp where
  dec : Int → List UInt8
  pn : Int → Prop
  txS : List (List Int) → List UInt8
  pS : List (List Int) → Prop
  txV : List (List Int) → List UInt8
  lg : List (List Int) → Prop
def txV (l : List (List Int)) : List UInt8 := if stB l then txS l else []
def sk : Sk := { sp with dec := decS, pn := fun n => 0 ≤ n ∧ n ≤ 9223372036854775807, txS := txS, pS := fun l => rec2 l ∧ stB l = true, txV := txV, lg := fun l => rec2 l ∧ l.length ≤ 1048576 }
def K1 (S : Sk) : List (Nat × (List AV → CR)) :=
  (33, fun args => match args with | [.int .i64 n] => .pure (S.pn n) (.str (S.dec n)) [] | _ => .no) ::
  R2 S.toSp
set_option maxRecDepth 100000 in
theorem K1_ok : TabOK Tryd.prog (tfind (K1 sk)) := by
  refine tab_cons (fun args => ?_) (R2_ok)
  · split
    · exact ent_pure fun h => l1Num_ok _ h.1 h.2
    · exact ent_no
set_option maxRecDepth 100000 in
theorem ruText_ok (l : List (List Int)) (h2 : rec2 l) (hst : stB l = true) : FC Tryd.prog 22 [.ro (.recs 2 l)] (.str (txS l)) [] := by
  refine fc_eval sk K1 K1_ok hT hm Tryd.func22 rfl (by kernel_rfl) rfl rfl ?_
  intro A S r0 fr0 hA hS hr hfr
  cbv
  obtain ⟨L, hL⟩ : ∃ L : Int, L = l.length := ⟨_, rfl⟩
  have hl8 := stB_len hst
  refine loop2 (fun (i : Nat) (t : List UInt8) => ⟨fr 25 [(3, .str t), (6, .ro (.recs 2 l)), (7, .int .i64 L), (8, .int .i64 i)], [.dead]⟩)
    (fun i t => i ≤ l.length ∧ t = txS (l.take i)) (fun i _ => l.length - i) 0 [] ?_ ?_ ?_
  · subst hA; simp [Wk_iff, fr, undefs, wkT, wkV, wkH, okid, Row.nlen, w64_eq, getO, alg, hL]
  · simp [txS]
  · rintro i t ⟨h3, h4⟩
    cbv
    (try simp only [nc] at *); subst hA hS hr hfr; simp (disch := (refine KR.mk ?_; kernel_rfl)) only [alg, obP_iff, condP_iff, retP_iff, retM_iff, ofNat_cast, nc, Int.toNat_natCast, decide_eq_true_eq, decide_eq_false_iff_not, wrap_w64, retS_iff, Bool.not_eq_true', Bool.not_eq_false', beq_iff_eq, beq_eq_false_iff_ne, AV.bool.injEq, AV.int.injEq, AV.t2.injEq, AV.t3.injEq, AV.own.injEq, List.cons.injEq, Prod.mk.injEq, Row.ints.injEq, RW, Row.nlen, scalar, imp_self, and_true, true_and, lexT, heldT, tailT, planT, nb, Int.toNat_zero, List.getD_cons_zero, List.getD_cons_succ, List.set_cons_zero, List.set_cons_succ, sk, sp, sb]
    refine ⟨fun hi => ?_, fun hi => ?_⟩
    · have hb := stB_at hst (i := i) (by omega)
      have e0 : fL l i = (l.getD i []).getD 0 0 := rfl
      have e1 : fC l i = (l.getD i []).getD 1 0 := rfl
      rw [e0, e1] at hb
      have l0 := Lib.itoa_length_le ((l.getD i []).getD 0 0) (by omega) (by omega)
      have l1 := Lib.itoa_length_le ((l.getD i []).getD 1 0) (by omega) (by omega)
      have l2 := txS_len hst i h3
      rw [← h4] at l2
      have l0 : (decS ((l.getD i []).getD 0 0)).length ≤ 21 := l0
      have l1 : (decS ((l.getD i []).getD 1 0)).length ≤ 21 := l1
      simp only [w64_eq, List.length_append, List.length_cons, List.length_nil]
      repeat' apply And.intro
      all_goals try omega
      refine ⟨i + 1, t ++ slT (l.getD i []), ?_, ⟨by omega, ?_⟩, by omega⟩
      · simp [Wk_iff, fr, undefs, wkT, wkV, wkH, okid, Row.nlen, w64_eq, getO, slT]; try omega
      · rw [txS_succ l i (by omega), ← h4]
    · rw [h4, List.take_of_length_le (by omega)]
def K2 (S : Sk) : List (Nat × (List AV → CR)) :=
  (22, fun args => match args with | [.ro (.recs 2 l)] => .pure (S.pS l) (.str (S.txS l)) [] | _ => .no) ::
  K1 S
set_option maxRecDepth 100000 in
theorem K2_ok : TabOK Tryd.prog (tfind (K2 sk)) := by
  refine tab_cons (fun args => ?_) (K1_ok)
  · split
    · exact ent_pure fun h => ruText_ok _ h.1 h.2
    · exact ent_no
def K3 (S : Sk) : List (Nat × (List AV → CR)) :=
  (19, fun args => match args with | [.ro (.recs 2 l)] => .pure (S.pS l) (.str (S.txS l)) [] | _ => .no) ::
  K2 S
set_option maxRecDepth 100000 in
theorem K3_ok : TabG gW Tryd.prog (tfind (K3 sk)) := by
  refine tab_cons (fun args => ?_) ((TabOK.toG K2_ok))
  · split
    · exact ent_pure fun h => stockTxt_ok _ h.1 h.2
    · exact ent_no
set_option maxRecDepth 100000 in
theorem specTxt_ok (l : List (List Int)) (h2 : rec2 l) (hl : l.length ≤ 1048576) : FC Tryd.prog 11 [.ro (.recs 2 l)] (.t2 (.str (txV l)) (.bool (stB l))) [] := by
  refine fc_eval sk K2 K2_ok hT hm Tryd.func11 rfl (by kernel_rfl) rfl rfl ?_
  intro A S r0 fr0 hA hS hr hfr
  cbv
  (try simp only [nc] at *); subst hA hS hr hfr; simp (disch := (refine KR.mk ?_; kernel_rfl)) only [alg, obP_iff, condP_iff, retP_iff, retM_iff, ofNat_cast, nc, Int.toNat_natCast, decide_eq_true_eq, decide_eq_false_iff_not, wrap_w64, retS_iff, Bool.not_eq_true', Bool.not_eq_false', beq_iff_eq, beq_eq_false_iff_ne, AV.bool.injEq, AV.int.injEq, AV.t2.injEq, AV.t3.injEq, AV.own.injEq, List.cons.injEq, Prod.mk.injEq, Row.ints.injEq, RW, Row.nlen, scalar, imp_self, and_true, true_and, lexT, heldT, tailT, planT, nb, Int.toNat_zero, List.getD_cons_zero, List.getD_cons_succ, List.set_cons_zero, List.set_cons_succ, sk, sp, sb, txV]
  refine ⟨hl, fun h => ?_, fun h => ?_⟩
  · simp [h]
  · simp [h, h2]
set_option maxRecDepth 100000 in
theorem implTxt_ok (l : List (List Int)) (h2 : rec2 l) (hl : l.length ≤ 1048576) : FCG gW Tryd.prog 13 [.ro (.recs 2 l)] (.t2 (.str (txV l)) (.bool (stB l))) [] := by
  refine fcg_eval gW_st sk K3 K3_ok hT hm Tryd.func13 rfl (by kernel_rfl) rfl rfl ?_
  intro A S r0 fr0 hA hS hr hfr
  cbv
  (try simp only [nc] at *); subst hA hS hr hfr; simp (disch := (refine KR.mk ?_; kernel_rfl)) only [alg, obP_iff, condP_iff, retP_iff, retM_iff, ofNat_cast, nc, Int.toNat_natCast, decide_eq_true_eq, decide_eq_false_iff_not, wrap_w64, retS_iff, Bool.not_eq_true', Bool.not_eq_false', beq_iff_eq, beq_eq_false_iff_ne, AV.bool.injEq, AV.int.injEq, AV.t2.injEq, AV.t3.injEq, AV.own.injEq, List.cons.injEq, Prod.mk.injEq, Row.ints.injEq, RW, Row.nlen, scalar, imp_self, and_true, true_and, lexT, heldT, tailT, planT, nb, Int.toNat_zero, List.getD_cons_zero, List.getD_cons_succ, List.set_cons_zero, List.set_cons_succ, sk, sp, sb, txV]
  refine ⟨hl, fun h => ?_, fun h => ?_⟩
  · simp [h]
  · simp [h, h2]
def K4 (S : Sk) : List (Nat × (List AV → CR)) :=
  (11, fun args => match args with | [.ro (.recs 2 l)] => .pure (S.lg l) (.t2 (.str (S.txV l)) (.bool (S.stB l))) [] | _ => .no) ::
  (13, fun args => match args with | [.ro (.recs 2 l)] => .pure (S.lg l) (.t2 (.str (S.txV l)) (.bool (S.stB l))) [] | _ => .no) ::
  (12, fun args => match args with | [.ro (.recs 2 l)] => .pure (S.rl l) (.own 0 false) [(38, .recs 2 l)] | _ => .no) ::
  (7, fun args => match args with | [.ro (.recs 2 l), .ro (.recs 2 r)] => .pure (S.rl l ∧ S.rl r) (.bool (S.eqRL l r)) [] | _ => .no) ::
  (10, fun args => match args with | [.ro (.recs 2 l), .int .i64 k] => .pure (True) (.int .i64 (S.szV k l)) [] | _ => .no) ::
  K3 S
set_option maxRecDepth 100000 in
theorem K4_ok : TabG gW Tryd.prog (tfind (K4 sk)) := by
  refine tab_cons (fun args => ?_) (tab_cons (fun args => ?_) (tab_cons (fun args => ?_) (tab_cons (fun args => ?_) (tab_cons (fun args => ?_) (K3_ok)))))
  · split
    · exact ent_pure fun h => (specTxt_ok _ h.1 h.2).toG
    · exact ent_no
  · split
    · exact ent_pure fun h => implTxt_ok _ h.1 h.2
    · exact ent_no
  · split
    · exact ent_pure fun h => (toSS_ok _ h.1 h.2).toG
    · exact ent_no
  · split
    · exact ent_pure fun h => (eqSS_ok _ _ h.1.1 h.2.1 h.1.2).toG
    · exact ent_no
  · split
    · exact ent_pure fun _ => (szS_ok _ _).toG
    · exact ent_no
set_option maxRecDepth 100000 in
theorem lawStockText (l : List (List Int)) (h2 : rec2 l) (hmx : l.length ≤ 9223372036854775807) : FCG gW Tryd.prog 4 [.ro (.recs 2 l)] (.bool true) [] := by
  refine fcg_eval gW_st sk K4 K4_ok hT hm Tryd.func4 rfl (by kernel_rfl) rfl rfl ?_
  intro A S r0 fr0 hA hS hr hfr
  cbv
  (try simp only [nc] at *); subst hA hS hr hfr; simp (disch := (refine KR.mk ?_; kernel_rfl)) only [alg, obP_iff, condP_iff, retP_iff, retM_iff, ofNat_cast, nc, Int.toNat_natCast, decide_eq_true_eq, decide_eq_false_iff_not, wrap_w64, retS_iff, Bool.not_eq_true', Bool.not_eq_false', beq_iff_eq, beq_eq_false_iff_ne, AV.bool.injEq, AV.int.injEq, AV.t2.injEq, AV.t3.injEq, AV.own.injEq, List.cons.injEq, Prod.mk.injEq, Row.ints.injEq, RW, Row.nlen, scalar, imp_self, and_true, true_and, lexT, heldT, tailT, planT, nb, Int.toNat_zero, List.getD_cons_zero, List.getD_cons_succ, List.set_cons_zero, List.set_cons_succ, sk, sp, sb, eqL, eqRL]
  refine ⟨fun _ => trivial, fun hs => ?_⟩
  have hl := sz_pos hmx hs
  simp [h2, hl]
end Go.Proofs.YtmhbpaijlbmmlaaDoor
