/-
  Hyphens in words: letters; slices of strings copied and compared.
-/
import Derived.Test.YtcbfpkdcgbkfaaaDoorB0
import Derived.Test.YtcbfpkdcgbkfaaaDoorV0
import Derived.Test.YtcbfpkdcgbkfaaaDoorH1
set_option linter.unusedSimpArgs false
set_option linter.unusedVariables false
namespace Go.Proofs.YtcbfpkdcgbkfaaaDoor
open Go.Ab

def eqSS (a b : List (List UInt8)) : Bool := decide (a = b)
def szF (k : Int) : List (List UInt8) → Int
  | [] => k
  | s :: r => if w64 (k - s.length) < 0 then -1 else szF (w64 (k - s.length)) r
def szS (k : Int) (l : List (List UInt8)) : Int := if w64 (k - l.length) < 0 then -1 else szF (w64 (k - l.length)) l
theorem toSS_ok (l : List (List UInt8)) (hl : l.length ≤ 1048576) : FC Tryd.prog 8 [.ro (.strs l)] (.own 0 false) [(9, .strs l)] := by
  refine fc_eval () (fun _ => []) (tab_nil _) hT hm Tryd.func8 rfl (by kernel_rfl) rfl rfl ?_
  intro A S r0 fr0 hA hS hr hfr
  cbv
  refine ⟨by subst hA; simp only [alg]; omega, ⟨by subst hA; simp [alg], ?_⟩⟩
  refine loop2 (fun (i : Nat) (out : List (List UInt8)) => ⟨fr 22 [(0, .ro (.strs l)), (3, .own 1 false), (4, .int .i64 i)], [.dead, .row 9 (.strs out)]⟩)
    (fun i out => i ≤ l.length ∧ out.length = l.length ∧ out.take i = l.take i) (fun i _ => l.length - i) 0 (List.replicate l.length []) ?_ ?_ ?_
  · subst hA; simp [Wk_iff, fr, undefs, wkT, wkV, wkH, okid, Row.nlen, Row.rk, RK.rowk, w64_eq, getO, alg]
  · simp
  · rintro i out ⟨h1, h2, h3⟩
    cbv
    try simp only [nc] at *
    subst hA hr hfr
    simp only [alg, obP_iff, condP_iff, retP_iff, retM_iff, ofNat_cast, nc, Int.toNat_natCast, decide_eq_true_eq, decide_eq_false_iff_not, IntKind.wrap_i64, Bool.not_eq_true', Bool.not_eq_false', beq_iff_eq, beq_eq_false_iff_ne, AV.bool.injEq, AV.int.injEq, AV.t2.injEq, AV.t3.injEq, AV.own.injEq, List.cons.injEq, Prod.mk.injEq, Row.ints.injEq, RW, Row.nlen, scalar, imp_self, and_true, true_and]
    refine ⟨fun hc => ⟨by omega, by omega, i + 1, out.set i (l.getD i []), ?_, ⟨by omega, by simp [h2], set_step _ _ _ _ h2 (by omega) h3⟩, by omega⟩, fun hc => ?_⟩
    · simp [Wk_iff, fr, undefs, wkT, wkV, wkH, okid, Row.nlen, Row.rk, RK.rowk, w64_eq, getO]; try omega
    · have := take_all h2 (by omega) h3
      simp [RW, this]
theorem eqSS_ok (a b : List (List UInt8)) (ha : a.length ≤ 1048576) : FC Tryd.prog 10 [.ro (.strs a), .ro (.strs b)] (.bool (eqSS a b)) [] := by
  refine fc_eval () (fun _ => []) (tab_nil _) hT hm Tryd.func10 rfl (by kernel_rfl) rfl rfl ?_
  intro A S r0 fr0 hA hS hr hfr
  cbv
  constructor
  · intro hc
    subst hA hr hfr
    have : a ≠ b := by intro e; subst e; simp [alg] at hc
    simp [alg, obP_iff, condP_iff, retP_iff, retM_iff, ofNat_cast, nc, Int.toNat_natCast, decide_eq_true_eq, decide_eq_false_iff_not, IntKind.wrap_i64, Bool.not_eq_true', Bool.not_eq_false', beq_iff_eq, beq_eq_false_iff_ne, AV.bool.injEq, AV.int.injEq, AV.t2.injEq, AV.t3.injEq, AV.own.injEq, List.cons.injEq, Prod.mk.injEq, Row.ints.injEq, RW, Row.nlen, scalar, imp_self, and_true, true_and, eqSS, this]
  · intro hc
    have hl : a.length = b.length := by subst hA; simp [alg] at hc; omega
    refine loop1 (fun (i : Nat) => ⟨fr 26 [(0, .ro (.strs a)), (1, .ro (.strs b)), (5, .int .i64 i)], [.dead]⟩)
      (fun i => i ≤ a.length ∧ a.take i = b.take i) (fun i => a.length - i) 0 ?_ ?_ ?_
    · subst hA; simp [Wk_iff, fr, undefs, wkT, wkV, wkH, okid, Row.nlen, Row.rk, RK.rowk, w64_eq, getO, alg]
    · simp
    · rintro i ⟨h1, h2⟩
      cbv
      try simp only [nc] at *
      subst hA hr hfr
      simp only [alg, obP_iff, condP_iff, retP_iff, retM_iff, ofNat_cast, nc, Int.toNat_natCast, decide_eq_true_eq, decide_eq_false_iff_not, IntKind.wrap_i64, Bool.not_eq_true', Bool.not_eq_false', beq_iff_eq, beq_eq_false_iff_ne, AV.bool.injEq, AV.int.injEq, AV.t2.injEq, AV.t3.injEq, AV.own.injEq, List.cons.injEq, Prod.mk.injEq, Row.ints.injEq, RW, Row.nlen, scalar, imp_self, and_true, true_and]
      refine ⟨fun hc => ⟨⟨by kernel_rfl⟩, by omega, by omega, fun hn => ?_, fun hn => ⟨i + 1, ?_, ⟨by omega, ?_⟩, by omega⟩⟩, fun hc => ?_⟩
      · have : a ≠ b := by intro e; subst e; simp at hn
        simp [eqSS, this]
      · simp [Wk_iff, fr, undefs, wkT, wkV, wkH, okid, Row.nlen, Row.rk, RK.rowk, w64_eq, getO]; omega
      · rw [take_getD [] _ _ (by omega), take_getD [] _ _ (by omega), h2, hn]
      · have : a = b := take_all hl (by omega) h2
        simp [eqSS, this]
theorem szF_drop (k : Int) (l : List (List UInt8)) (i : Nat) (h : i < l.length) : szF k (l.drop i) = if w64 (k - (l.getD i []).length) < 0 then -1 else szF (w64 (k - (l.getD i []).length)) (l.drop (i + 1)) := by
  rw [drop_getD [] l i h]; rfl
theorem szS_ok (l : List (List UInt8)) (k : Int) (hl : l.length ≤ 9223372036854775807) : FC Tryd.prog 6 [.ro (.strs l), .int .i64 k] (.int .i64 (szS k l)) [] := by
  refine fc_eval sb B2 B2_ok hT hm Tryd.func6 rfl (by kernel_rfl) rfl rfl ?_
  intro A S r0 fr0 hA hS hr hfr
  cbv
  obtain ⟨k1, hk1⟩ : ∃ k1 : Int, k1 = w64 (k - l.length) := ⟨_, rfl⟩
  refine condP.mk (fun hn => ?_) (fun hy => ?_)
  · have hn : k1 < 0 := by (try simp only [nc] at *); (try subst hA); (try subst hS); simp (disch := (refine KR.mk ?_; kernel_rfl)) only [alg, obP_iff, condP_iff, retP_iff, retM_iff, ofNat_cast, nc, Int.toNat_natCast, decide_eq_true_eq, decide_eq_false_iff_not, wrap_w64, retS_iff, Bool.not_eq_true', Bool.not_eq_false', beq_iff_eq, beq_eq_false_iff_ne, AV.bool.injEq, AV.int.injEq, AV.t2.injEq, AV.t3.injEq, AV.own.injEq, List.cons.injEq, Prod.mk.injEq, Row.ints.injEq, RW, Row.nlen, scalar, imp_self, and_true, true_and, lexT, heldT, tailT, planT, nb, Int.toNat_zero, List.getD_cons_zero, List.getD_cons_succ, List.set_cons_zero, List.set_cons_succ, sb] at hn; simpa [hk1] using hn
    (try simp only [nc] at *); subst hA hS hr hfr; simp (disch := (refine KR.mk ?_; kernel_rfl)) only [alg, obP_iff, condP_iff, retP_iff, retM_iff, ofNat_cast, nc, Int.toNat_natCast, decide_eq_true_eq, decide_eq_false_iff_not, wrap_w64, retS_iff, Bool.not_eq_true', Bool.not_eq_false', beq_iff_eq, beq_eq_false_iff_ne, AV.bool.injEq, AV.int.injEq, AV.t2.injEq, AV.t3.injEq, AV.own.injEq, List.cons.injEq, Prod.mk.injEq, Row.ints.injEq, RW, Row.nlen, scalar, imp_self, and_true, true_and, lexT, heldT, tailT, planT, nb, Int.toNat_zero, List.getD_cons_zero, List.getD_cons_succ, List.set_cons_zero, List.set_cons_succ, sb]
    rw [szS, ← hk1, if_pos (by assumption)]
  · have hy : ¬ k1 < 0 := by (try simp only [nc] at *); (try subst hA); (try subst hS); simp (disch := (refine KR.mk ?_; kernel_rfl)) only [alg, obP_iff, condP_iff, retP_iff, retM_iff, ofNat_cast, nc, Int.toNat_natCast, decide_eq_true_eq, decide_eq_false_iff_not, wrap_w64, retS_iff, Bool.not_eq_true', Bool.not_eq_false', beq_iff_eq, beq_eq_false_iff_ne, AV.bool.injEq, AV.int.injEq, AV.t2.injEq, AV.t3.injEq, AV.own.injEq, List.cons.injEq, Prod.mk.injEq, Row.ints.injEq, RW, Row.nlen, scalar, imp_self, and_true, true_and, lexT, heldT, tailT, planT, nb, Int.toNat_zero, List.getD_cons_zero, List.getD_cons_succ, List.set_cons_zero, List.set_cons_succ, sb] at hy; simpa [hk1] using hy
    refine loop2 (fun (i : Nat) (q : Int) => ⟨fr 28 [(0, .ro (.strs l)), (1, .int .i64 q), (5, .int .i64 i)], [.dead]⟩)
      (fun i q => i ≤ l.length ∧ szS k l = szF q (l.drop i)) (fun i _ => l.length - i) 0 k1 ?_ ?_ ?_
    · subst hA; simp [Wk_iff, fr, undefs, wkT, wkV, wkH, okid, Row.nlen, Row.rk, RK.rowk, getO, alg, hk1, wrap_w64]
    · simp [szS, ← hk1, hy]
    · rintro i q ⟨h1, h2⟩
      cbv
      (try simp only [nc] at *); subst hA hS hr hfr; simp (disch := (refine KR.mk ?_; kernel_rfl)) only [alg, obP_iff, condP_iff, retP_iff, retM_iff, ofNat_cast, nc, Int.toNat_natCast, decide_eq_true_eq, decide_eq_false_iff_not, wrap_w64, retS_iff, Bool.not_eq_true', Bool.not_eq_false', beq_iff_eq, beq_eq_false_iff_ne, AV.bool.injEq, AV.int.injEq, AV.t2.injEq, AV.t3.injEq, AV.own.injEq, List.cons.injEq, Prod.mk.injEq, Row.ints.injEq, RW, Row.nlen, scalar, imp_self, and_true, true_and, lexT, heldT, tailT, planT, nb, Int.toNat_zero, List.getD_cons_zero, List.getD_cons_succ, List.set_cons_zero, List.set_cons_succ, sb]
      refine ⟨fun hi => ⟨by omega, fun hn => ?_, fun hn => ⟨i + 1, w64 (q - (l.getD i []).length), ?_, ⟨by omega, ?_⟩, by omega⟩⟩, fun hi => ?_⟩
      · rw [h2, szF_drop _ _ _ (by omega), if_pos hn]
      · simp [Wk_iff, fr, undefs, wkT, wkV, wkH, okid, Row.nlen, Row.rk, RK.rowk, getO, w64_id (n := (i : Int) + 1) (by omega)]
      · rw [h2, szF_drop _ _ _ (by omega), if_neg hn]
      · rw [h2, List.drop_of_length_le (by omega)]; rfl

/-! Letters. -/
theorem letC_ev (c : UInt8) : (decide ((c.toNat : Int) < 97) || decide ((122 : Int) < (c.toNat : Int))) = !letC c := by
  rw [Bool.eq_iff_iff]
  simp only [letC, Bool.or_eq_true, decide_eq_true_eq, Bool.not_eq_true', inR, Bool.and_eq_false_iff, decide_eq_false_iff_not]
  omega
theorem areL_ok (s : List UInt8) (lo hi : Int) (hs : s.length ≤ 1048576) : FC Tryd.prog 50 [.str s, .int .i64 lo, .int .i64 hi] (.bool (letB s lo hi)) [] := by
  refine fc_eval sb B2 B2_ok hT hm Tryd.func50 rfl (by kernel_rfl) rfl rfl ?_
  intro A S r0 fr0 hA hS hr hfr
  cbv
  refine loop1 (fun (i : Nat) => ⟨fr 29 [(0, .str s), (1, .int .i64 lo), (2, .int .i64 hi), (7, .int .i64 i)], [.dead]⟩)
    (fun i => i ≤ s.length ∧ letTo s i = true) (fun i => s.length - i) 0 ?_ ?_ ?_
  · subst hA; simp [Wk_iff, fr, undefs, wkT, wkV, wkH, okid, Row.nlen, Row.rk, RK.rowk, w64_eq, getO, alg]
  · simp [letTo]
  · rintro i ⟨h1, h2⟩
    cbv
    (try simp only [nc] at *); subst hA hS hr hfr; simp (disch := (refine KR.mk ?_; kernel_rfl)) only [alg, obP_iff, condP_iff, retP_iff, retM_iff, ofNat_cast, nc, Int.toNat_natCast, decide_eq_true_eq, decide_eq_false_iff_not, wrap_w64, retS_iff, Bool.not_eq_true', Bool.not_eq_false', beq_iff_eq, beq_eq_false_iff_ne, AV.bool.injEq, AV.int.injEq, AV.t2.injEq, AV.t3.injEq, AV.own.injEq, List.cons.injEq, Prod.mk.injEq, Row.ints.injEq, RW, Row.nlen, scalar, imp_self, and_true, true_and, lexT, heldT, tailT, planT, nb, Int.toNat_zero, List.getD_cons_zero, List.getD_cons_succ, List.set_cons_zero, List.set_cons_succ, sb]
    rw [letC_ev]
    refine ⟨fun hi => ⟨by omega, fun _ => by omega, fun hb => ?_, fun hb => ⟨i + 1, ?_, ⟨by omega, ?_⟩, by omega⟩⟩, fun hi => ?_⟩
    · have := letTo_bad (s := s) (n := s.length) (i := i) (by omega) (by simpa using hb)
      rw [letB, this]; rfl
    · simp [Wk_iff, fr, undefs, wkT, wkV, wkH, okid, Row.nlen, Row.rk, RK.rowk, w64_eq, getO]; try omega
    · rw [letTo_succ, h2]; simpa using hb
    · have e : i = s.length := by omega
      subst e
      rw [letB, h2]; rfl
theorem tyL_ok (s : List UInt8) (hi : Int) (hs : s.length ≤ 1048576) : FC Tryd.prog 36 [.str s, .int .i64 hi] (.bool (letB s 1 hi)) [] := by
  refine fc_eval sb B2 B2_ok hT hm Tryd.func36 rfl (by kernel_rfl) rfl rfl ?_
  intro A S r0 fr0 hA hS hr hfr
  cbv
  refine loop1 (fun (i : Nat) => ⟨fr 26 [(0, .str s), (1, .int .i64 hi), (5, .int .i64 i)], [.dead]⟩)
    (fun i => i ≤ s.length ∧ letTo s i = true) (fun i => s.length - i) 0 ?_ ?_ ?_
  · subst hA; simp [Wk_iff, fr, undefs, wkT, wkV, wkH, okid, Row.nlen, Row.rk, RK.rowk, w64_eq, getO, alg]
  · simp [letTo]
  · rintro i ⟨h1, h2⟩
    cbv
    (try simp only [nc] at *); subst hA hS hr hfr; simp (disch := (refine KR.mk ?_; kernel_rfl)) only [alg, obP_iff, condP_iff, retP_iff, retM_iff, ofNat_cast, nc, Int.toNat_natCast, decide_eq_true_eq, decide_eq_false_iff_not, wrap_w64, retS_iff, Bool.not_eq_true', Bool.not_eq_false', beq_iff_eq, beq_eq_false_iff_ne, AV.bool.injEq, AV.int.injEq, AV.t2.injEq, AV.t3.injEq, AV.own.injEq, List.cons.injEq, Prod.mk.injEq, Row.ints.injEq, RW, Row.nlen, scalar, imp_self, and_true, true_and, lexT, heldT, tailT, planT, nb, Int.toNat_zero, List.getD_cons_zero, List.getD_cons_succ, List.set_cons_zero, List.set_cons_succ, sb]
    rw [letC_ev]
    refine ⟨fun hi => ⟨by omega, fun _ => by omega, fun hb => ?_, fun hb => ⟨i + 1, ?_, ⟨by omega, ?_⟩, by omega⟩⟩, fun hi => ?_⟩
    · have := letTo_bad (s := s) (n := s.length) (i := i) (by omega) (by simpa using hb)
      rw [letB, this]; rfl
    · simp [Wk_iff, fr, undefs, wkT, wkV, wkH, okid, Row.nlen, Row.rk, RK.rowk, w64_eq, getO]; try omega
    · rw [letTo_succ, h2]; simpa using hb
    · have e : i = s.length := by omega
      subst e
      rw [letB, h2]; rfl

def hasN (l : List Int) (n : Int) : Bool := decide (n ∈ l)
theorem hasN_drop (l : List Int) (n : Int) (i : Nat) (h : i < l.length) : hasN (l.drop i) n = (decide (l.getD i 0 = n) || hasN (l.drop (i + 1)) n) := by
  rw [drop_getD 0 l i h]
  generalize l.getD i 0 = x
  by_cases e : x = n
  · subst e; simp [hasN]
  · have : ¬ n = x := fun h => e h.symm
    simp [hasN, e, this]
def hasB (l : List (List UInt8)) (n : List UInt8) : Bool := decide (n ∈ l)
theorem hasB_drop (l : List (List UInt8)) (n : List UInt8) (i : Nat) (h : i < l.length) : hasB (l.drop i) n = (decide (l.getD i [] = n) || hasB (l.drop (i + 1)) n) := by
  rw [drop_getD [] l i h]
  generalize l.getD i [] = x
  by_cases e : x = n
  · subst e; simp [hasB]
  · have : ¬ n = x := fun h => e h.symm
    simp [hasB, e, this]
theorem implHas_ok (l : List Int) (n : Int) (hl : l.length ≤ 1048576) : FC Tryd.prog 19 [.ro (.ints .i64 l), .int .i64 n] (.bool (hasN l n)) [] := by
  refine fc_eval sb B2 B2_ok hT hm Tryd.func19 rfl (by kernel_rfl) rfl rfl ?_
  intro A S r0 fr0 hA hS hr hfr
  cbv
  obtain ⟨L, hL⟩ : ∃ L : Int, L = l.length := ⟨_, rfl⟩
  refine loop1 (fun (i : Nat) => ⟨fr 17 [(1, .int .i64 n), (7, .ro (.ints .i64 l)), (8, .int .i64 L), (9, .int .i64 i)], [.dead]⟩)
    (fun i => i ≤ l.length ∧ hasN l n = hasN (l.drop i) n) (fun i => l.length - i) 0 ?_ ?_ ?_
  · subst hA; simp [Wk_iff, fr, undefs, wkT, wkV, wkH, okid, Row.nlen, Row.rk, RK.rowk, w64_eq, getO, alg, hL]
  · simp
  · rintro i ⟨h1, h2⟩
    cbv
    (try simp only [nc] at *); subst hA hS hr hfr; simp (disch := (refine KR.mk ?_; kernel_rfl)) only [alg, obP_iff, condP_iff, retP_iff, retM_iff, ofNat_cast, nc, Int.toNat_natCast, decide_eq_true_eq, decide_eq_false_iff_not, wrap_w64, retS_iff, Bool.not_eq_true', Bool.not_eq_false', beq_iff_eq, beq_eq_false_iff_ne, AV.bool.injEq, AV.int.injEq, AV.t2.injEq, AV.t3.injEq, AV.own.injEq, List.cons.injEq, Prod.mk.injEq, Row.ints.injEq, RW, Row.nlen, scalar, imp_self, and_true, true_and, lexT, heldT, tailT, planT, nb, Int.toNat_zero, List.getD_cons_zero, List.getD_cons_succ, List.set_cons_zero, List.set_cons_succ, sb]
    refine ⟨fun hi => ⟨by omega, fun hb => ?_, fun hb => ⟨i + 1, ?_, ⟨by omega, ?_⟩, by omega⟩⟩, fun hi => ?_⟩
    · rw [h2, hasN_drop _ _ _ (by omega), hb]; simp
    · simp [Wk_iff, fr, undefs, wkT, wkV, wkH, okid, Row.nlen, Row.rk, RK.rowk, w64_eq, getO]; try omega
    · rw [h2, hasN_drop _ _ _ (by omega), decide_eq_false hb]; rfl
    · rw [h2, List.drop_of_length_le (by omega)]; rfl
theorem specHas_ok (l : List Int) (n : Int) (hl : l.length ≤ 1048576) : FC Tryd.prog 16 [.ro (.ints .i64 l), .int .i64 n] (.bool (hasN l n)) [] := by
  refine fc_eval sb B2 B2_ok hT hm Tryd.func16 rfl (by kernel_rfl) rfl rfl ?_
  intro A S r0 fr0 hA hS hr hfr
  cbv
  obtain ⟨L, hL⟩ : ∃ L : Int, L = l.length := ⟨_, rfl⟩
  refine loop1 (fun (i : Nat) => ⟨fr 17 [(1, .int .i64 n), (7, .ro (.ints .i64 l)), (8, .int .i64 L), (9, .int .i64 i)], [.dead]⟩)
    (fun i => i ≤ l.length ∧ hasN l n = hasN (l.drop i) n) (fun i => l.length - i) 0 ?_ ?_ ?_
  · subst hA; simp [Wk_iff, fr, undefs, wkT, wkV, wkH, okid, Row.nlen, Row.rk, RK.rowk, w64_eq, getO, alg, hL]
  · simp
  · rintro i ⟨h1, h2⟩
    cbv
    (try simp only [nc] at *); subst hA hS hr hfr; simp (disch := (refine KR.mk ?_; kernel_rfl)) only [alg, obP_iff, condP_iff, retP_iff, retM_iff, ofNat_cast, nc, Int.toNat_natCast, decide_eq_true_eq, decide_eq_false_iff_not, wrap_w64, retS_iff, Bool.not_eq_true', Bool.not_eq_false', beq_iff_eq, beq_eq_false_iff_ne, AV.bool.injEq, AV.int.injEq, AV.t2.injEq, AV.t3.injEq, AV.own.injEq, List.cons.injEq, Prod.mk.injEq, Row.ints.injEq, RW, Row.nlen, scalar, imp_self, and_true, true_and, lexT, heldT, tailT, planT, nb, Int.toNat_zero, List.getD_cons_zero, List.getD_cons_succ, List.set_cons_zero, List.set_cons_succ, sb]
    refine ⟨fun hi => ⟨by omega, fun hb => ?_, fun hb => ⟨i + 1, ?_, ⟨by omega, ?_⟩, by omega⟩⟩, fun hi => ?_⟩
    · rw [h2, hasN_drop _ _ _ (by omega), hb]; simp
    · simp [Wk_iff, fr, undefs, wkT, wkV, wkH, okid, Row.nlen, Row.rk, RK.rowk, w64_eq, getO]; try omega
    · rw [h2, hasN_drop _ _ _ (by omega), decide_eq_false hb]; rfl
    · rw [h2, List.drop_of_length_le (by omega)]; rfl
theorem hasS_ok (l : List (List UInt8)) (n : List UInt8) (hl : l.length ≤ 1048576) : FC Tryd.prog 35 [.ro (.strs l), .str n] (.bool (hasB l n)) [] := by
  refine fc_eval sb B2 B2_ok hT hm Tryd.func35 rfl (by kernel_rfl) rfl rfl ?_
  intro A S r0 fr0 hA hS hr hfr
  cbv
  obtain ⟨L, hL⟩ : ∃ L : Int, L = l.length := ⟨_, rfl⟩
  refine loop1 (fun (i : Nat) => ⟨fr 17 [(1, .str n), (7, .ro (.strs l)), (8, .int .i64 L), (9, .int .i64 i)], [.dead]⟩)
    (fun i => i ≤ l.length ∧ hasB l n = hasB (l.drop i) n) (fun i => l.length - i) 0 ?_ ?_ ?_
  · subst hA; simp [Wk_iff, fr, undefs, wkT, wkV, wkH, okid, Row.nlen, Row.rk, RK.rowk, w64_eq, getO, alg, hL]
  · simp
  · rintro i ⟨h1, h2⟩
    cbv
    (try simp only [nc] at *); subst hA hS hr hfr; simp (disch := (refine KR.mk ?_; kernel_rfl)) only [alg, obP_iff, condP_iff, retP_iff, retM_iff, ofNat_cast, nc, Int.toNat_natCast, decide_eq_true_eq, decide_eq_false_iff_not, wrap_w64, retS_iff, Bool.not_eq_true', Bool.not_eq_false', beq_iff_eq, beq_eq_false_iff_ne, AV.bool.injEq, AV.int.injEq, AV.t2.injEq, AV.t3.injEq, AV.own.injEq, List.cons.injEq, Prod.mk.injEq, Row.ints.injEq, RW, Row.nlen, scalar, imp_self, and_true, true_and, lexT, heldT, tailT, planT, nb, Int.toNat_zero, List.getD_cons_zero, List.getD_cons_succ, List.set_cons_zero, List.set_cons_succ, sb]
    refine ⟨fun hi => ⟨by omega, fun hb => ?_, fun hb => ⟨i + 1, ?_, ⟨by omega, ?_⟩, by omega⟩⟩, fun hi => ?_⟩
    · rw [h2, hasB_drop _ _ _ (by omega), hb]; simp
    · simp [Wk_iff, fr, undefs, wkT, wkV, wkH, okid, Row.nlen, Row.rk, RK.rowk, w64_eq, getO]; try omega
    · rw [h2, hasB_drop _ _ _ (by omega), decide_eq_false hb]; rfl
    · rw [h2, List.drop_of_length_le (by omega)]; rfl
def mst (a b : Int) : Int := if b < a then a else b
theorem most_ok (a b : Int) : FC Tryd.prog 38 [.int .i64 a, .int .i64 b] (.int .i64 (mst a b)) [] := by
  refine fc_eval sb B2 B2_ok hT hm Tryd.func38 rfl (by kernel_rfl) rfl rfl ?_
  intro A S r0 fr0 hA hS hr hfr
  cbv
  (try simp only [nc] at *); subst hA hS hr hfr; simp (disch := (refine KR.mk ?_; kernel_rfl)) only [alg, obP_iff, condP_iff, retP_iff, retM_iff, ofNat_cast, nc, Int.toNat_natCast, decide_eq_true_eq, decide_eq_false_iff_not, wrap_w64, retS_iff, Bool.not_eq_true', Bool.not_eq_false', beq_iff_eq, beq_eq_false_iff_ne, AV.bool.injEq, AV.int.injEq, AV.t2.injEq, AV.t3.injEq, AV.own.injEq, List.cons.injEq, Prod.mk.injEq, Row.ints.injEq, RW, Row.nlen, scalar, imp_self, and_true, true_and, lexT, heldT, tailT, planT, nb, Int.toNat_zero, List.getD_cons_zero, List.getD_cons_succ, List.set_cons_zero, List.set_cons_succ, sb, mst]
  refine ⟨fun h => by simp [h], fun h => by simp [h]⟩

structure Sv extends Sh where
  letB : List UInt8 → Int → Int → Bool
  hasN : List Int → Int → Bool
  hasB : List (List UInt8) → List UInt8 → Bool
  mst : Int → Int → Int
  sl : List (List UInt8) → Prop
  si : List Int → Prop
  eqSS : List (List UInt8) → List (List UInt8) → Bool
  szS : Int → List (List UInt8) → Int
  bL : List UInt8 → List UInt8
  bP : List UInt8 → List Int
  bB : List UInt8 → Bool
  plainE : List UInt8 → List UInt8
  spl : List UInt8 → List (List UInt8)
  excB : List UInt8 → Bool
  hp : List UInt8 → List UInt8 → Bool
def sv : Sv := { sh with letB := letB, hasN := hasN, hasB := hasB, mst := mst, sl := fun l => l.length ≤ 1048576, si := fun l => l.length ≤ 1048576, eqSS := eqSS, szS := szS, bL := bL, bP := bP, bB := bB, plainE := plainE, spl := spl, excB := excB, hp := fun s p => p.isPrefixOf s }
def V1 (S : Sv) : List (Nat × (List AV → CR)) :=
  (50, fun args => match args with | [.str s, .int .i64 lo, .int .i64 hi] => .pure (S.ss s) (.bool (S.letB s lo hi)) [] | _ => .no) ::
  (36, fun args => match args with | [.str s, .int .i64 hi] => .pure (S.ss s) (.bool (S.letB s 1 hi)) [] | _ => .no) ::
  (19, fun args => match args with | [.ro (.ints .i64 l), .int .i64 n] => .pure (S.si l) (.bool (S.hasN l n)) [] | _ => .no) ::
  (16, fun args => match args with | [.ro (.ints .i64 l), .int .i64 n] => .pure (S.si l) (.bool (S.hasN l n)) [] | _ => .no) ::
  (35, fun args => match args with | [.ro (.strs l), .str n] => .pure (S.sl l) (.bool (S.hasB l n)) [] | _ => .no) ::
  (38, fun args => match args with | [.int .i64 a, .int .i64 b] => .pure (True) (.int .i64 (S.mst a b)) [] | _ => .no) ::
  (8, fun args => match args with | [.ro (.strs l)] => .pure (S.sl l) (.own 0 false) [(9, .strs l)] | _ => .no) ::
  (10, fun args => match args with | [.ro (.strs l), .ro (.strs r)] => .pure (S.sl l) (.bool (S.eqSS l r)) [] | _ => .no) ::
  H3 S.toSh
set_option maxRecDepth 100000 in
theorem V1_ok : TabOK Tryd.prog (tfind (V1 sv)) := by
  refine tab_cons (fun args => ?_) (tab_cons (fun args => ?_) (tab_cons (fun args => ?_) (tab_cons (fun args => ?_) (tab_cons (fun args => ?_) (tab_cons (fun args => ?_) (tab_cons (fun args => ?_) (tab_cons (fun args => ?_) (H3_ok))))))))
  · split
    · exact ent_pure fun h => areL_ok _ _ _ h
    · exact ent_no
  · split
    · exact ent_pure fun h => tyL_ok _ _ h
    · exact ent_no
  · split
    · exact ent_pure fun h => implHas_ok _ _ h
    · exact ent_no
  · split
    · exact ent_pure fun h => specHas_ok _ _ h
    · exact ent_no
  · split
    · exact ent_pure fun h => hasS_ok _ _ h
    · exact ent_no
  · split
    · exact ent_pure fun _ => most_ok _ _
    · exact ent_no
  · split
    · exact ent_pure fun h => toSS_ok _ h
    · exact ent_no
  · split
    · exact ent_pure fun h => eqSS_ok _ _ h
    · exact ent_no
theorem tyW_ok (s : List UInt8) (hs : s.length ≤ 1048576) : FC Tryd.prog 26 [.str s] (.bool (letB s 1 16)) [] := by
  refine fc_eval sv V1 V1_ok hT hm Tryd.func26 rfl (by kernel_rfl) rfl rfl ?_
  intro A S r0 fr0 hA hS hr hfr
  cbv
  (try simp only [nc] at *); subst hA hS hr hfr; simp (disch := (refine KR.mk ?_; kernel_rfl)) only [alg, obP_iff, condP_iff, retP_iff, retM_iff, ofNat_cast, nc, Int.toNat_natCast, decide_eq_true_eq, decide_eq_false_iff_not, wrap_w64, retS_iff, Bool.not_eq_true', Bool.not_eq_false', beq_iff_eq, beq_eq_false_iff_ne, AV.bool.injEq, AV.int.injEq, AV.t2.injEq, AV.t3.injEq, AV.own.injEq, List.cons.injEq, Prod.mk.injEq, Row.ints.injEq, RW, Row.nlen, scalar, imp_self, and_true, true_and, lexT, heldT, tailT, planT, nb, Int.toNat_zero, List.getD_cons_zero, List.getD_cons_succ, List.set_cons_zero, List.set_cons_succ, sv, sh, sb]
  exact hs
theorem isW_ok (s : List UInt8) (hs : s.length ≤ 1048576) : FC Tryd.prog 41 [.str s] (.bool (letB s 1 16)) [] := by
  refine fc_eval sv V1 V1_ok hT hm Tryd.func41 rfl (by kernel_rfl) rfl rfl ?_
  intro A S r0 fr0 hA hS hr hfr
  cbv
  (try simp only [nc] at *); subst hA hS hr hfr; simp (disch := (refine KR.mk ?_; kernel_rfl)) only [alg, obP_iff, condP_iff, retP_iff, retM_iff, ofNat_cast, nc, Int.toNat_natCast, decide_eq_true_eq, decide_eq_false_iff_not, wrap_w64, retS_iff, Bool.not_eq_true', Bool.not_eq_false', beq_iff_eq, beq_eq_false_iff_ne, AV.bool.injEq, AV.int.injEq, AV.t2.injEq, AV.t3.injEq, AV.own.injEq, List.cons.injEq, Prod.mk.injEq, Row.ints.injEq, RW, Row.nlen, scalar, imp_self, and_true, true_and, lexT, heldT, tailT, planT, nb, Int.toNat_zero, List.getD_cons_zero, List.getD_cons_succ, List.set_cons_zero, List.set_cons_succ, sv, sh, sb]
  exact hs
def V2 (S : Sv) : List (Nat × (List AV → CR)) :=
  (26, fun args => match args with | [.str s] => .pure (S.ss s) (.bool (S.letB s 1 16)) [] | _ => .no) ::
  (41, fun args => match args with | [.str s] => .pure (S.ss s) (.bool (S.letB s 1 16)) [] | _ => .no) ::
  V1 S
set_option maxRecDepth 100000 in
theorem V2_ok : TabOK Tryd.prog (tfind (V2 sv)) := by
  refine tab_cons (fun args => ?_) (tab_cons (fun args => ?_) (V1_ok))
  · split
    · exact ent_pure fun h => tyW_ok _ h
    · exact ent_no
  · split
    · exact ent_pure fun h => isW_ok _ h
    · exact ent_no
set_option maxRecDepth 100000 in
theorem bare_ok (e : List UInt8) (he : e.length ≤ 1048576) : FC Tryd.prog 27 [.str e] (.t3 (.str (bL e)) (.own 0 true) (.bool (bB e))) [(3, .ints .i64 (bP e))] := by
  refine fc_eval sv V2 V2_ok hT hm Tryd.func27 rfl (by kernel_rfl) rfl rfl ?_
  intro A S r0 fr0 hA hS hr hfr
  cbv
  refine loop3 (fun (i : Nat) (L : List UInt8) (V : List Int) => ⟨fr 55 [(0, .str e), (5, .str L), (6, .own 1 true), (7, .int .i64 i)], [.dead, .row 3 (.ints .i64 V)]⟩)
    (fun i L V => i ≤ e.length ∧ bF e i = some (L, V) ∧ L.length ≤ i ∧ V.length ≤ i) (fun i _ _ => e.length - i) 0 [] [] ?_ ?_ ?_
  · subst hA hS; simp [Wk_iff, fr, undefs, wkT, wkV, wkH, okid, Row.nlen, Row.rk, RK.rowk, getO, alg]
  · exact ⟨by omega, rfl, by simp, by simp⟩
  · intro i L V hR
    have i1 := hR.1
    have hfo := hR.2.1
    have hLi := hR.2.2.1
    have hVi := hR.2.2.2
    clear hR
    cbv
    (try simp only [nc] at *); subst hA hS hr hfr; simp (disch := (refine KR.mk ?_; kernel_rfl)) only [alg, obP_iff, condP_iff, retP_iff, retM_iff, ofNat_cast, nc, Int.toNat_natCast, decide_eq_true_eq, decide_eq_false_iff_not, wrap_w64, retS_iff, Bool.not_eq_true', Bool.not_eq_false', beq_iff_eq, beq_eq_false_iff_ne, AV.bool.injEq, AV.int.injEq, AV.t2.injEq, AV.t3.injEq, AV.own.injEq, List.cons.injEq, Prod.mk.injEq, Row.ints.injEq, RW, Row.nlen, scalar, imp_self, and_true, true_and, lexT, heldT, tailT, planT, nb, Int.toNat_zero, List.getD_cons_zero, List.getD_cons_succ, List.set_cons_zero, List.set_cons_succ, sv, sh, sb]
    have w1 : w64 ((i : Int) + 1) = ((i + 1 : Nat) : Int) := by rw [w64_id (by omega)]; omega
    simp only [w1, Int.toNat_natCast]
    have n45 : ((e.getD i 0).toNat : Int) = 45 ↔ e.getD i 0 = 45 := by
      constructor
      · intro h; apply UInt8.toNat_inj.1; have : (45 : UInt8).toNat = 45 := rfl; omega
      · intro h; rw [h]; rfl
    refine ⟨fun hi => ?_, fun hi => ?_⟩
    · have hil : i < e.length := by omega
      have hto := take_one e hil
      have w3 : w64 ((L.length : Int) + ([e.getD i 0].length : Nat)) = (L.length : Int) + 1 := by rw [w64_id (by simp; omega)]; simp
      have w4 : w64 ((e.length : Int) - 1) = (e.length : Int) - 1 := w64_id (by omega)
      simp only [hto, w3, w4]
      have hcnd : ∀ x : Bool, (L == [] || (i : Int) == (e.length : Int) - 1 || x) = true ↔ (L = [] ∨ (i : Int) = (e.length : Int) - 1 ∨ x = true) := by
        intro x; simp only [Bool.or_eq_true, beq_iff_eq, or_assoc]
      have hprev : 0 < i → ((((e.getD (w64 ((i : Int) - 1)).toNat 0).toNat : Int) == 45) = true ↔ e.getD (i - 1) 0 = 45) := by
        intro h0
        have e1 : (w64 ((i : Int) - 1)).toNat = i - 1 := by rw [w64_id (by omega)]; omega
        rw [e1, beq_iff_eq]
        constructor
        · intro h; apply UInt8.toNat_inj.1; have : (45 : UInt8).toNat = 45 := rfl; omega
        · intro h; rw [h]; rfl
      have h0L : i = 0 → L = [] := fun h => List.eq_nil_of_length_eq_zero (by omega)
      refine ⟨by omega, fun hn => ⟨by omega, by omega, by omega, by omega, by simp, i + 1, L ++ [e.getD i 0], V, ?_, ⟨by omega, ?_, by simp; omega, by omega⟩, by omega⟩, fun hn => ⟨fun hg => ?_, fun hb => ?_, fun hb => ⟨by omega, by simp, i + 1, L, V ++ [(L.length : Int)], ?_, ⟨by omega, ?_, by omega, by simp; omega⟩, by omega⟩⟩⟩
      · simp [Wk_iff, fr, undefs, wkT, wkV, wkH, okid, Row.nlen, Row.rk, RK.rowk, getO]
      · rw [bF, hfo]
        simp only
        rw [if_pos (fun h => hn (n45.2 h))]
      · have h0 : 0 < i := by
          rcases Nat.eq_zero_or_pos i with h | h
          · rw [h0L h] at hg; simp at hg
          · exact h
        rw [w64_id (by omega)]; omega
      · have hnone : bF e (i + 1) = none := by
          rw [bF, hfo]
          simp only
          rw [if_neg (fun h => h (n45.1 hn)), if_pos]
          rcases (hcnd _).1 hb with h | h | h
          · exact .inl h
          · exact .inr (.inl h)
          · rcases Nat.eq_zero_or_pos i with h0 | h0
            · exact .inl (h0L h0)
            · exact .inr (.inr ((hprev h0).1 h))
        have hend := bF_none hnone e.length (by omega)
        simp [bL, bB, bP, hend]
      · simp [Wk_iff, fr, undefs, wkT, wkV, wkH, okid, Row.nlen, Row.rk, RK.rowk, getO]
      · rw [bF, hfo]
        simp only
        rw [if_neg (fun h => h (n45.1 hn)), if_neg]
        intro hor
        have : (L == [] || (i : Int) == (e.length : Int) - 1 || (((e.getD (w64 ((i : Int) - 1)).toNat 0).toNat : Int) == 45)) = true := by
          rw [hcnd]
          rcases hor with h | h | h
          · exact .inl h
          · exact .inr (.inl h)
          · rcases Nat.eq_zero_or_pos i with h0 | h0
            · exact .inl (h0L h0)
            · exact .inr (.inr ((hprev h0).2 h))
        rw [hb] at this; cases this
    · have ei : i = e.length := by omega
      subst ei
      simp [bL, bB, bP, hfo]
      omega
end Go.Proofs.YtcbfpkdcgbkfaaaDoor
