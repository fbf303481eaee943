/-
  The functions of the laws' own file: copy, compare, mark, hold; and the small ones that every chapter has.
-/
import Derived.Test.YtcbfpkdcgbkfaaaDoorG0
import Derived.Test.YtcbfpkdcgbkfaaaDoorProg
set_option linter.unusedSimpArgs false
set_option linter.unusedVariables false
namespace Go.Proofs.YtcbfpkdcgbkfaaaDoor
open Go.Ab

def ty : List (Nat × TI) := [(3, ⟨some (.i .i64), none⟩), (4, ⟨some .b, none⟩)
  , (9, ⟨some .s, none⟩)
  , (5, ⟨some (.i .u8), none⟩)
  , (35, ⟨some .sli, some (3, .i .i64)⟩)
  , (54, ⟨some .ifc, none⟩)
  , (62, ⟨some .mp, none⟩)
  , (49, ⟨none, some (5, .i .u8)⟩)
  , (22, ⟨none, some (9, .s)⟩)
  ]
theorem hT : TTok Tryd.prog (Go.Ab.look ty) := tt_sound (by kernel_rfl)
theorem hm : Tryd.prog.follows .mixedOrders = true := by kernel_rfl

theorem within_ok (n lo hi : Int) : FC Tryd.prog 24 [.int .i64 n, .int .i64 lo, .int .i64 hi] (.bool (inR n lo hi)) [] := by
  refine fc_eval () (fun _ => []) (tab_nil _) hT hm Tryd.func24 rfl (by kernel_rfl) rfl rfl ?_
  intro A S r0 fr0 hA hS hr hfr
  cbv
  subst hA hr hfr
  simp only [alg, obP_iff, condP_iff, retP_iff, retM_iff, ofNat_cast, nc, Int.toNat_natCast, decide_eq_true_eq, decide_eq_false_iff_not, IntKind.wrap_i64, Bool.not_eq_true', Bool.not_eq_false', beq_iff_eq, beq_eq_false_iff_ne, AV.bool.injEq, AV.int.injEq, AV.t2.injEq, AV.t3.injEq, AV.own.injEq, List.cons.injEq, Prod.mk.injEq, Row.ints.injEq, RW, Row.nlen, scalar, imp_self, and_true, true_and, inR]
  try simp
theorem l1In_ok (n lo hi : Int) : FC Tryd.prog 23 [.int .i64 n, .int .i64 lo, .int .i64 hi] (.bool (inR n lo hi)) [] := by
  refine fc_eval () (fun _ => []) (tab_nil _) hT hm Tryd.func23 rfl (by kernel_rfl) rfl rfl ?_
  intro A S r0 fr0 hA hS hr hfr
  cbv
  subst hA hr hfr
  simp only [alg, obP_iff, condP_iff, retP_iff, retM_iff, ofNat_cast, nc, Int.toNat_natCast, decide_eq_true_eq, decide_eq_false_iff_not, IntKind.wrap_i64, Bool.not_eq_true', Bool.not_eq_false', beq_iff_eq, beq_eq_false_iff_ne, AV.bool.injEq, AV.int.injEq, AV.t2.injEq, AV.t3.injEq, AV.own.injEq, List.cons.injEq, Prod.mk.injEq, Row.ints.injEq, RW, Row.nlen, scalar, imp_self, and_true, true_and, inR]
  try simp
def B1 (S : Sb) : List (Nat × (List AV → CR)) :=
  (24, fun args => match args with | [.int .i64 n, .int .i64 lo, .int .i64 hi] => .pure (True) (.bool (S.inR n lo hi)) [] | _ => .no) ::
  (23, fun args => match args with | [.int .i64 n, .int .i64 lo, .int .i64 hi] => .pure (True) (.bool (S.inR n lo hi)) [] | _ => .no) ::
  []
set_option maxRecDepth 100000 in
theorem B1_ok : TabOK Tryd.prog (tfind (B1 sb)) := by
  refine tab_cons (fun args => ?_) (tab_cons (fun args => ?_) (tab_nil _))
  · split
    · exact ent_pure fun _ => within_ok _ _ _
    · exact ent_no
  · split
    · exact ent_pure fun _ => l1In_ok _ _ _
    · exact ent_no
theorem sum_ok (l : List Int) (hl : l.length ≤ 1048576) : FC Tryd.prog 61 [.ro (.ints .i64 l)] (.int .i64 (sumF l 0)) [] := by
  refine fc_eval sb B1 B1_ok hT hm Tryd.func61 rfl (by kernel_rfl) rfl rfl ?_
  intro A S r0 fr0 hA hS hr hfr
  cbv
  obtain ⟨L, hL⟩ : ∃ L : Int, L = l.length := ⟨_, rfl⟩
  refine loop2 (fun (i : Nat) (q : Int) => ⟨fr 17 [(0, .ro (.ints .i64 l)), (3, .int .i64 q), (6, .ro (.ints .i64 l)), (7, .int .i64 L), (8, .int .i64 i)], [.dead]⟩)
    (fun i q => i ≤ l.length ∧ sumF l 0 = sumF (l.drop i) q) (fun i _ => l.length - i) 0 0 ?_ ?_ ?_
  · subst hA; simp [Wk_iff, fr, undefs, wkT, wkV, wkH, okid, Row.nlen, Row.rk, RK.rowk, w64_eq, getO, alg, hL]
  · simp
  · rintro i q ⟨h1, h3⟩
    cbv
    (try simp only [nc] at *); subst hA hS hr hfr; simp (disch := (refine KR.mk ?_; kernel_rfl)) only [alg, obP_iff, condP_iff, retP_iff, retM_iff, ofNat_cast, nc, Int.toNat_natCast, decide_eq_true_eq, decide_eq_false_iff_not, wrap_w64, retS_iff, Bool.not_eq_true', Bool.not_eq_false', beq_iff_eq, beq_eq_false_iff_ne, AV.bool.injEq, AV.int.injEq, AV.t2.injEq, AV.t3.injEq, AV.own.injEq, List.cons.injEq, Prod.mk.injEq, Row.ints.injEq, RW, Row.nlen, scalar, imp_self, and_true, true_and, lexT, heldT, tailT, planT, nb, Int.toNat_zero, List.getD_cons_zero, List.getD_cons_succ, List.set_cons_zero, List.set_cons_succ, sb]
    refine ⟨fun hc => ⟨by omega, i + 1, w64 (q + l.getD i 0), ?_, ⟨by omega, ?_⟩, by omega⟩, fun hc => ?_⟩
    · simp [Wk_iff, fr, undefs, wkT, wkV, wkH, okid, Row.nlen, Row.rk, RK.rowk, w64_eq, getO, w64, IntKind.wrap_i64]; try omega
    · rw [h3, sumF_drop _ _ _ (by omega)]
    · rw [h3, List.drop_of_length_le (by omega)]; simp [sumF]
def B2 (S : Sb) : List (Nat × (List AV → CR)) :=
  (61, fun args => match args with | [.ro (.ints .i64 l)] => .pure (S.sm l) (.int .i64 (S.sumF l 0)) [] | _ => .no) ::
  B1 S
set_option maxRecDepth 100000 in
theorem B2_ok : TabOK Tryd.prog (tfind (B2 sb)) := by
  refine tab_cons (fun args => ?_) (B1_ok)
  · split
    · exact ent_pure fun h => sum_ok _ h
    · exact ent_no
end Go.Proofs.YtcbfpkdcgbkfaaaDoor
