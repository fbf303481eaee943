/-
  The functions of the laws' own file: copy, compare, mark, hold; and the small ones that every chapter has.
-/
import Derived.Test.YtjkkjfnkcfaigaaDoorG0
import Derived.Test.YtjkkjfnkcfaigaaDoorProg
set_option linter.unusedSimpArgs false
set_option linter.unusedVariables false
namespace Go.Proofs.YtjkkjfnkcfaigaaDoor
open Go.Ab

def ty : List (Nat × TI) := [(3, ⟨some (.i .i64), none⟩), (4, ⟨some .b, none⟩)
  , (9, ⟨some .s, none⟩)
  , (5, ⟨some (.i .u8), none⟩)
  , (22, ⟨some .sli, some (3, .i .i64)⟩)
  , (31, ⟨none, some (5, .i .u8)⟩)
  ]
theorem hT : TTok Tryd.prog (Go.Ab.look ty) := tt_sound (by kernel_rfl)
theorem hm : Tryd.prog.follows .mixedOrders = true := by kernel_rfl

theorem toIntS_ok (l : List Int) (hl : l.length ≤ 1048576) : FC Tryd.prog 5 [.ro (.ints .i64 l)] (.own 0 false) [(3, .ints .i64 l)] := by
  refine fc_eval () (fun _ => []) (tab_nil _) hT hm Tryd.func5 rfl (by kernel_rfl) rfl rfl ?_
  intro A S r0 fr0 hA hS hr hfr
  cbv
  refine ⟨by subst hA; simp only [alg]; omega, ⟨by subst hA; simp [alg], ?_⟩⟩
  refine loop2 (fun (i : Nat) (out : List Int) => ⟨fr 22 [(0, .ro (.ints .i64 l)), (3, .own 1 false), (4, .int .i64 i)], [.dead, .row 3 (.ints .i64 out)]⟩)
    (fun i out => i ≤ l.length ∧ out.length = l.length ∧ out.take i = l.take i) (fun i _ => l.length - i) 0 (List.replicate l.length 0) ?_ ?_ ?_
  · subst hA; simp [Wk_iff, fr, undefs, wkT, wkV, wkH, okid, Row.nlen, w64_eq, getO, alg]
  · simp
  · rintro i out ⟨h1, h2, h3⟩
    cbv
    try simp only [nc] at *
    subst hA hr hfr
    simp only [alg, obP_iff, condP_iff, retP_iff, retM_iff, ofNat_cast, nc, Int.toNat_natCast, decide_eq_true_eq, decide_eq_false_iff_not, IntKind.wrap_i64, Bool.not_eq_true', Bool.not_eq_false', beq_iff_eq, beq_eq_false_iff_ne, AV.bool.injEq, AV.int.injEq, AV.t2.injEq, AV.t3.injEq, AV.own.injEq, List.cons.injEq, Prod.mk.injEq, Row.ints.injEq, RW, Row.nlen, scalar, imp_self, and_true, true_and]
    refine ⟨fun hc => ⟨by omega, by omega, i + 1, out.set i (l.getD i 0), ?_, ⟨by omega, by simp [h2], set_step _ _ _ _ h2 (by omega) h3⟩, by omega⟩, fun hc => ?_⟩
    · simp [Wk_iff, fr, undefs, wkT, wkV, wkH, okid, Row.nlen, w64_eq, getO]; try omega
    · rw [take_all h2 (by omega) h3]
theorem eqIntS_ok (a b : List Int) (ha : a.length ≤ 1048576) : FC Tryd.prog 7 [.ro (.ints .i64 a), .ro (.ints .i64 b)] (.bool (eqL a b)) [] := by
  refine fc_eval () (fun _ => []) (tab_nil _) hT hm Tryd.func7 rfl (by kernel_rfl) rfl rfl ?_
  intro A S r0 fr0 hA hS hr hfr
  cbv
  constructor
  · intro hc
    subst hA hr hfr
    have : a ≠ b := by intro e; subst e; simp [alg] at hc
    simp [alg, obP_iff, condP_iff, retP_iff, retM_iff, ofNat_cast, nc, Int.toNat_natCast, decide_eq_true_eq, decide_eq_false_iff_not, IntKind.wrap_i64, Bool.not_eq_true', Bool.not_eq_false', beq_iff_eq, beq_eq_false_iff_ne, AV.bool.injEq, AV.int.injEq, AV.t2.injEq, AV.t3.injEq, AV.own.injEq, List.cons.injEq, Prod.mk.injEq, Row.ints.injEq, RW, Row.nlen, scalar, imp_self, and_true, true_and, eqL, this]
  · intro hc
    have hl : a.length = b.length := by subst hA; simp [alg] at hc; omega
    refine loop1 (fun (i : Nat) => ⟨fr 26 [(0, .ro (.ints .i64 a)), (1, .ro (.ints .i64 b)), (5, .int .i64 i)], [.dead]⟩)
      (fun i => i ≤ a.length ∧ a.take i = b.take i) (fun i => a.length - i) 0 ?_ ?_ ?_
    · subst hA; simp [Wk_iff, fr, undefs, wkT, wkV, wkH, okid, Row.nlen, w64_eq, getO, alg]
    · simp
    · rintro i ⟨h1, h2⟩
      cbv
      subst hA hr hfr
      simp only [alg, obP_iff, condP_iff, retP_iff, retM_iff, ofNat_cast, nc, Int.toNat_natCast, decide_eq_true_eq, decide_eq_false_iff_not, IntKind.wrap_i64, Bool.not_eq_true', Bool.not_eq_false', beq_iff_eq, beq_eq_false_iff_ne, AV.bool.injEq, AV.int.injEq, AV.t2.injEq, AV.t3.injEq, AV.own.injEq, List.cons.injEq, Prod.mk.injEq, Row.ints.injEq, RW, Row.nlen, scalar, imp_self, and_true, true_and]
      refine ⟨fun hc => ⟨⟨by kernel_rfl⟩, by omega, by omega, fun hn => ?_, fun hn => ⟨i + 1, ?_, ⟨by omega, ?_⟩, by omega⟩⟩, fun hc => ?_⟩
      · have : a ≠ b := by intro e; subst e; simp at hn
        simp [eqL, this]
      · simp [Wk_iff, fr, undefs, wkT, wkV, wkH, okid, Row.nlen, w64_eq, getO]; omega
      · rw [take_getD 0 _ _ (by omega), take_getD 0 _ _ (by omega), h2, hn]
      · have : a = b := take_all hl (by omega) h2
        simp [eqL, this]
theorem within_ok (n lo hi : Int) : FC Tryd.prog 16 [.int .i64 n, .int .i64 lo, .int .i64 hi] (.bool (inR n lo hi)) [] := by
  refine fc_eval () (fun _ => []) (tab_nil _) hT hm Tryd.func16 rfl (by kernel_rfl) rfl rfl ?_
  intro A S r0 fr0 hA hS hr hfr
  cbv
  subst hA hr hfr
  simp only [alg, obP_iff, condP_iff, retP_iff, retM_iff, ofNat_cast, nc, Int.toNat_natCast, decide_eq_true_eq, decide_eq_false_iff_not, IntKind.wrap_i64, Bool.not_eq_true', Bool.not_eq_false', beq_iff_eq, beq_eq_false_iff_ne, AV.bool.injEq, AV.int.injEq, AV.t2.injEq, AV.t3.injEq, AV.own.injEq, List.cons.injEq, Prod.mk.injEq, Row.ints.injEq, RW, Row.nlen, scalar, imp_self, and_true, true_and, inR]
  try simp
theorem l1In_ok (n lo hi : Int) : FC Tryd.prog 13 [.int .i64 n, .int .i64 lo, .int .i64 hi] (.bool (inR n lo hi)) [] := by
  refine fc_eval () (fun _ => []) (tab_nil _) hT hm Tryd.func13 rfl (by kernel_rfl) rfl rfl ?_
  intro A S r0 fr0 hA hS hr hfr
  cbv
  subst hA hr hfr
  simp only [alg, obP_iff, condP_iff, retP_iff, retM_iff, ofNat_cast, nc, Int.toNat_natCast, decide_eq_true_eq, decide_eq_false_iff_not, IntKind.wrap_i64, Bool.not_eq_true', Bool.not_eq_false', beq_iff_eq, beq_eq_false_iff_ne, AV.bool.injEq, AV.int.injEq, AV.t2.injEq, AV.t3.injEq, AV.own.injEq, List.cons.injEq, Prod.mk.injEq, Row.ints.injEq, RW, Row.nlen, scalar, imp_self, and_true, true_and, inR]
  try simp
def B1 (S : Sb) : List (Nat × (List AV → CR)) :=
  (16, fun args => match args with | [.int .i64 n, .int .i64 lo, .int .i64 hi] => .pure (True) (.bool (S.inR n lo hi)) [] | _ => .no) ::
  (13, fun args => match args with | [.int .i64 n, .int .i64 lo, .int .i64 hi] => .pure (True) (.bool (S.inR n lo hi)) [] | _ => .no) ::
  []
set_option maxRecDepth 100000 in
theorem B1_ok : TabOK Tryd.prog (tfind (B1 sb)) := by
  refine tab_cons (fun args => ?_) (tab_cons (fun args => ?_) (tab_nil _))
  · split
    · exact ent_pure fun _ => within_ok _ _ _
    · exact ent_no
  · split
    · exact ent_pure fun _ => l1In_ok _ _ _
    · exact ent_no
theorem l1All_ok (l : List Int) (lo hi : Int) (hl : l.length ≤ 1099511627776) : FC Tryd.prog 15 [.ro (.ints .i64 l), .int .i64 lo, .int .i64 hi] (.bool (allR l lo hi)) [] := by
  refine fc_eval sb B1 B1_ok hT hm Tryd.func15 rfl (by kernel_rfl) rfl rfl ?_
  intro A S r0 fr0 hA hS hr hfr
  cbv
  obtain ⟨L, hL⟩ : ∃ L : Int, L = l.length := ⟨_, rfl⟩
  refine loop1 (fun (i : Nat) => ⟨fr 21 [(0, .ro (.ints .i64 l)), (1, .int .i64 lo), (2, .int .i64 hi), (9, .ro (.ints .i64 l)), (10, .int .i64 L), (11, .int .i64 i)], [.dead]⟩)
    (fun i => i ≤ l.length ∧ allR l lo hi = allR (l.drop i) lo hi) (fun i => l.length - i) 0 ?_ ?_ ?_
  · subst hA; simp [Wk_iff, fr, undefs, wkT, wkV, wkH, okid, Row.nlen, w64_eq, getO, alg, hL]
  · simp
  · rintro i ⟨h1, h2⟩
    cbv
    try simp only [nc] at *
    subst hA hS hr hfr
    simp only [alg, obP_iff, condP_iff, retP_iff, retM_iff, ofNat_cast, nc, Int.toNat_natCast, decide_eq_true_eq, decide_eq_false_iff_not, IntKind.wrap_i64, Bool.not_eq_true', Bool.not_eq_false', beq_iff_eq, beq_eq_false_iff_ne, AV.bool.injEq, AV.int.injEq, AV.t2.injEq, AV.t3.injEq, AV.own.injEq, List.cons.injEq, Prod.mk.injEq, Row.ints.injEq, RW, Row.nlen, scalar, imp_self, and_true, true_and, sb]
    refine ⟨fun hc => ⟨by omega, fun hn => ?_, fun hn => ⟨i + 1, ?_, ⟨by omega, ?_⟩, by omega⟩⟩, fun hc => ?_⟩
    · rw [h2, allR_drop _ _ _ _ (by omega), hn]; rfl
    · simp [Wk_iff, fr, undefs, wkT, wkV, wkH, okid, Row.nlen, w64_eq, getO]; try omega
    · rw [h2, allR_drop _ _ _ _ (by omega), hn]; rfl
    · rw [h2, allR_end _ _ _ _ (by omega)]
def B2 (S : Sb) : List (Nat × (List AV → CR)) :=
  (15, fun args => match args with | [.ro (.ints .i64 l), .int .i64 lo, .int .i64 hi] => .pure (S.sm l) (.bool (S.allR l lo hi)) [] | _ => .no) ::
  (5, fun args => match args with | [.ro (.ints .i64 l)] => .pure (S.sm l) (.own 0 false) [(3, .ints .i64 l)] | _ => .no) ::
  (7, fun args => match args with | [.ro (.ints .i64 a), .ro (.ints .i64 b)] => .pure (S.sm a) (.bool (S.eqL a b)) [] | _ => .no) ::
  B1 S
set_option maxRecDepth 100000 in
theorem B2_ok : TabOK Tryd.prog (tfind (B2 sb)) := by
  refine tab_cons (fun args => ?_) (tab_cons (fun args => ?_) (tab_cons (fun args => ?_) (B1_ok)))
  · split
    · exact ent_pure fun h => l1All_ok _ _ _ (Nat.le_trans h (by decide))
    · exact ent_no
  · split
    · exact ent_pure fun h => toIntS_ok _ h
    · exact ent_no
  · split
    · exact ent_pure fun h => eqIntS_ok _ _ h
    · exact ent_no
end Go.Proofs.YtjkkjfnkcfaigaaDoor
