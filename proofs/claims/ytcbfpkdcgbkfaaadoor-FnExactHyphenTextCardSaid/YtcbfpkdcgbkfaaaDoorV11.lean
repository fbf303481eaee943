/-
  Hyphens in words: the laws on one break and on the last place.
-/
import Derived.Test.YtcbfpkdcgbkfaaaDoorV10
set_option linter.unusedSimpArgs false
set_option linter.unusedVariables false
namespace Go.Proofs.YtcbfpkdcgbkfaaaDoor
open Go.Ab Go.RowKit

/-- What a statement's frame says of a slice of strings. -/
def bigS (l : List (List UInt8)) : Prop := l.length ≤ maxLen ∧ ∀ i, i < l.length → (l.getD i []).length ≤ maxLen
theorem szF_all : ∀ (l : List (List UInt8)) (k : Int), 0 ≤ k → k ≤ 1048576 → (∀ i, i < l.length → (l.getD i []).length ≤ maxLen) → ¬ szF k l < 0 → (0 ≤ szF k l ∧ szF k l ≤ 1048576) ∧ ∀ i, i < l.length → (l.getD i []).length ≤ 1048576
  | [], k, h0, h1, _, _ => ⟨⟨h0, h1⟩, by simp⟩
  | s :: r, k, h0, h1, hb, h => by
    have hs := hb 0 (by simp)
    simp only [List.getD_cons_zero, maxLen] at hs
    have e : w64 (k - s.length) = k - s.length := w64_id (by omega)
    simp only [szF, e] at h ⊢
    by_cases hn : k - (s.length : Int) < 0
    · rw [if_pos hn] at h; omega
    · rw [if_neg hn] at h ⊢
      obtain ⟨g1, g2⟩ := szF_all r (k - s.length) (by omega) (by omega) (fun i hi => by simpa using hb (i + 1) (by simpa using hi)) h
      refine ⟨g1, fun i hi => ?_⟩
      cases i with
      | zero => simp; omega
      | succ i => simpa using g2 i (by simpa using hi)
theorem szS_all {l : List (List UInt8)} {k : Int} (h0 : 0 ≤ k) (h1 : k ≤ 1048576) (hb : bigS l) (h : ¬ szS k l < 0) : (0 ≤ szS k l ∧ szS k l ≤ 1048576) ∧ allS l := by
  have hl := hb.1
  simp only [maxLen] at hl
  have e : w64 (k - l.length) = k - l.length := w64_id (by omega)
  simp only [szS, e] at h ⊢
  by_cases hn : k - (l.length : Int) < 0
  · rw [if_pos hn] at h; omega
  · rw [if_neg hn] at h ⊢
    obtain ⟨g1, g2⟩ := szF_all l (k - l.length) (by omega) (by omega) hb.2 h
    exact ⟨g1, by omega, g2⟩
structure Sl extends Sz where
  bg : List (List UInt8) → Prop
  lpO : List (List UInt8) → List (List UInt8) → List UInt8 → Int → Bool
def sl : Sl := { sz with bg := bigS, lpO := lpO }
def Q1 (S : Sl) : List (Nat × (List AV → CR)) :=
  (7, fun args => match args with | [.ro (.strs p), .ro (.strs e), .str w, .int .i64 n] => .pure (S.paP p e w) (.t2 (.bool (S.mbV p e w n)) (.bool (S.askB p e w))) [] | _ => .no) ::
  (9, fun args => match args with | [.ro (.strs p), .ro (.strs e), .str w, .int .i64 n] => .pure (S.paP p e w) (.t2 (.bool (S.mbV p e w n)) (.bool (S.askB p e w))) [] | _ => .no) ::
  (13, fun args => match args with | [.ro (.strs p), .ro (.strs e), .str w, .int .i64 n] => .pure (S.paP p e w) (.t2 (.int .i64 (S.lpV p e w n)) (.bool (S.lpB p e w n))) [] | _ => .no) ::
  (14, fun args => match args with | [.ro (.strs p), .ro (.strs e), .str w, .int .i64 n] => .pure (S.paP p e w) (.t2 (.int .i64 (S.lpV p e w n)) (.bool (S.lpB p e w n))) [] | _ => .no) ::
  (6, fun args => match args with | [.ro (.strs l), .int .i64 k] => .pure (S.bg l) (.int .i64 (S.szS k l)) [] | _ => .no) ::
  Z3 S.toSz
set_option maxRecDepth 100000 in
theorem Q1_ok : TabG gW Tryd.prog (tfind (Q1 sl)) := by
  refine tab_cons (fun args => ?_) (tab_cons (fun args => ?_) (tab_cons (fun args => ?_) (tab_cons (fun args => ?_) (tab_cons (fun args => ?_) (Z3_ok)))))
  · split
    · exact ent_pure fun h => (specMB_ok _ _ _ _ h).toG
    · exact ent_no
  · split
    · exact ent_pure fun h => implMB_ok _ _ _ _ h
    · exact ent_no
  · split
    · exact ent_pure fun h => (specLP_ok _ _ _ _ h).toG
    · exact ent_no
  · split
    · exact ent_pure fun h => implLP_ok _ _ _ _ h
    · exact ent_no
  · split
    · exact ent_pure fun h => (szS_ok _ _ (Nat.le_trans h.1 (by simp [maxLen]))).toG
    · exact ent_no
set_option maxRecDepth 100000 in
theorem lawMayBreakAt (p e : List (List UInt8)) (w : List UInt8) (n : Int) (hp : bigS p) (he : bigS e) : FCG gW Tryd.prog 3 [.ro (.strs p), .ro (.strs e), .str w, .int .i64 n] (.bool true) [] := by
  refine fcg_eval gW_st sl Q1 Q1_ok hT hm Tryd.func3 rfl (by kernel_rfl) rfl rfl ?_
  intro A S r0 fr0 hA hS hr hfr
  cbv
  (try simp only [nc] at *); subst hA hS hr hfr; simp (disch := (refine KR.mk ?_; kernel_rfl)) only [alg, obP_iff, condP_iff, retP_iff, retM_iff, ofNat_cast, nc, Int.toNat_natCast, decide_eq_true_eq, decide_eq_false_iff_not, wrap_w64, retS_iff, Bool.not_eq_true', Bool.not_eq_false', beq_iff_eq, beq_eq_false_iff_ne, AV.bool.injEq, AV.int.injEq, AV.t2.injEq, AV.t3.injEq, AV.own.injEq, List.cons.injEq, Prod.mk.injEq, Row.ints.injEq, RW, Row.nlen, scalar, imp_self, and_true, true_and, lexT, heldT, tailT, planT, nb, Int.toNat_zero, List.getD_cons_zero, List.getD_cons_succ, List.set_cons_zero, List.set_cons_succ, sl, sz, sy, sx, sw, sv, sh, sb, eqSS]
  refine ⟨fun _ => trivial, fun h1 => ⟨hp, fun _ => trivial, fun h2 => ?_⟩⟩
  obtain ⟨g1, g2⟩ := szS_all (by omega) (by omega) hp h2
  refine ⟨he, fun _ => trivial, fun h3 => ?_⟩
  obtain ⟨_, g4⟩ := szS_all g1.1 g1.2 he h3
  have hpa : paP p e w := ⟨g2, g4, by omega⟩
  have a := g2.1
  have b := g4.1
  simp [a, b, hpa]
set_option maxRecDepth 100000 in
theorem lawLastPlaceWithin (p e : List (List UInt8)) (w : List UInt8) (n : Int) (hp : bigS p) (he : bigS e) : FCG gW Tryd.prog 5 [.ro (.strs p), .ro (.strs e), .str w, .int .i64 n] (.bool true) [] := by
  refine fcg_eval gW_st sl Q1 Q1_ok hT hm Tryd.func5 rfl (by kernel_rfl) rfl rfl ?_
  intro A S r0 fr0 hA hS hr hfr
  cbv
  (try simp only [nc] at *); subst hA hS hr hfr; simp (disch := (refine KR.mk ?_; kernel_rfl)) only [alg, obP_iff, condP_iff, retP_iff, retM_iff, ofNat_cast, nc, Int.toNat_natCast, decide_eq_true_eq, decide_eq_false_iff_not, wrap_w64, retS_iff, Bool.not_eq_true', Bool.not_eq_false', beq_iff_eq, beq_eq_false_iff_ne, AV.bool.injEq, AV.int.injEq, AV.t2.injEq, AV.t3.injEq, AV.own.injEq, List.cons.injEq, Prod.mk.injEq, Row.ints.injEq, RW, Row.nlen, scalar, imp_self, and_true, true_and, lexT, heldT, tailT, planT, nb, Int.toNat_zero, List.getD_cons_zero, List.getD_cons_succ, List.set_cons_zero, List.set_cons_succ, sl, sz, sy, sx, sw, sv, sh, sb, eqSS]
  refine ⟨fun _ => trivial, fun h1 => ⟨hp, fun _ => trivial, fun h2 => ?_⟩⟩
  obtain ⟨g1, g2⟩ := szS_all (by omega) (by omega) hp h2
  refine ⟨he, fun _ => trivial, fun h3 => ?_⟩
  obtain ⟨_, g4⟩ := szS_all g1.1 g1.2 he h3
  have hpa : paP p e w := ⟨g2, g4, by omega⟩
  have a := g2.1
  have b := g4.1
  simp [a, b, hpa]
end Go.Proofs.YtcbfpkdcgbkfaaaDoor
