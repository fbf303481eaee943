/-
  The functions of the laws' own file: copy, compare, mark, hold; and the small ones that every chapter has.
-/
import Derived.Test.YtdkpncnkhnmidaaDoorG0
import Derived.Test.YtdkpncnkhnmidaaDoorProg
set_option linter.unusedSimpArgs false
set_option linter.unusedVariables false
namespace Go.Proofs.YtdkpncnkhnmidaaDoor
open Go.Ab

def ty : List (Nat × TI) := [(3, ⟨some (.i .i64), none⟩), (4, ⟨some .b, none⟩)
  , (9, ⟨some .s, none⟩)
  , (5, ⟨some (.i .u8), none⟩)
  , (34, ⟨some .sli, some (3, .i .i64)⟩)
  , (43, ⟨some .ifc, none⟩)
  , (47, ⟨none, some (5, .i .u8)⟩)
  , (28, ⟨none, some (9, .s)⟩)
  , (32, ⟨some (.rc 2), none⟩)
  , (22, ⟨none, some (32, .rc 2)⟩)
  ]
theorem hT : TTok Tryd.prog (Go.Ab.look ty) := tt_sound (by kernel_rfl)
theorem hm : Tryd.prog.follows .mixedOrders = true := by kernel_rfl

theorem within_ok (n lo hi : Int) : FC Tryd.prog 21 [.int .i64 n, .int .i64 lo, .int .i64 hi] (.bool (inR n lo hi)) [] := by
  refine fc_eval () (fun _ => []) (tab_nil _) hT hm Tryd.func21 rfl (by kernel_rfl) rfl rfl ?_
  intro A S r0 fr0 hA hS hr hfr
  cbv
  subst hA hr hfr
  simp only [alg, obP_iff, condP_iff, retP_iff, retM_iff, ofNat_cast, nc, Int.toNat_natCast, decide_eq_true_eq, decide_eq_false_iff_not, IntKind.wrap_i64, Bool.not_eq_true', Bool.not_eq_false', beq_iff_eq, beq_eq_false_iff_ne, AV.bool.injEq, AV.int.injEq, AV.t2.injEq, AV.t3.injEq, AV.own.injEq, List.cons.injEq, Prod.mk.injEq, Row.ints.injEq, RW, Row.nlen, scalar, imp_self, and_true, true_and, inR]
  try simp
theorem l1In_ok (n lo hi : Int) : FC Tryd.prog 16 [.int .i64 n, .int .i64 lo, .int .i64 hi] (.bool (inR n lo hi)) [] := by
  refine fc_eval () (fun _ => []) (tab_nil _) hT hm Tryd.func16 rfl (by kernel_rfl) rfl rfl ?_
  intro A S r0 fr0 hA hS hr hfr
  cbv
  subst hA hr hfr
  simp only [alg, obP_iff, condP_iff, retP_iff, retM_iff, ofNat_cast, nc, Int.toNat_natCast, decide_eq_true_eq, decide_eq_false_iff_not, IntKind.wrap_i64, Bool.not_eq_true', Bool.not_eq_false', beq_iff_eq, beq_eq_false_iff_ne, AV.bool.injEq, AV.int.injEq, AV.t2.injEq, AV.t3.injEq, AV.own.injEq, List.cons.injEq, Prod.mk.injEq, Row.ints.injEq, RW, Row.nlen, scalar, imp_self, and_true, true_and, inR]
  try simp
def B1 (S : Sb) : List (Nat × (List AV → CR)) :=
  (21, fun args => match args with | [.int .i64 n, .int .i64 lo, .int .i64 hi] => .pure (True) (.bool (S.inR n lo hi)) [] | _ => .no) ::
  (16, fun args => match args with | [.int .i64 n, .int .i64 lo, .int .i64 hi] => .pure (True) (.bool (S.inR n lo hi)) [] | _ => .no) ::
  []
set_option maxRecDepth 100000 in
theorem B1_ok : TabOK Tryd.prog (tfind (B1 sb)) := by
  refine tab_cons (fun args => ?_) (tab_cons (fun args => ?_) (tab_nil _))
  · split
    · exact ent_pure fun _ => within_ok _ _ _
    · exact ent_no
  · split
    · exact ent_pure fun _ => l1In_ok _ _ _
    · exact ent_no
def B2 (S : Sb) : List (Nat × (List AV → CR)) :=
  B1 S
set_option maxRecDepth 100000 in
theorem B2_ok : TabOK Tryd.prog (tfind (B2 sb)) := by
  refine B1_ok
end Go.Proofs.YtdkpncnkhnmidaaDoor
