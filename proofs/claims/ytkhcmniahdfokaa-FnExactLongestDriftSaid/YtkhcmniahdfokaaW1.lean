/-
  Trials: what is one.
-/
import Derived.Test.YtkhcmniahdfokaaW0
import Derived.Test.YtkhcmniahdfokaaAb19
set_option linter.unusedSimpArgs false
set_option linter.unusedVariables false
namespace Go.Proofs.Ytkhcmniahdfokaa
open Go.Ab

def inR (n lo hi : Int) : Bool := decide (lo ≤ n) && decide (n ≤ hi)

theorem within_ok (n lo hi : Int) : FC Try.prog 39 [.int .i64 n, .int .i64 lo, .int .i64 hi] (.bool (inR n lo hi)) [] := by
  refine fc_eval () (fun _ => []) (tab_nil _) hT hm Try.func39 rfl (by kernel_rfl) rfl rfl ?_
  intro A S r0 fr0 hA hS hr hfr
  cbv
  subst hA hr hfr
  simp only [alg, obP_iff, condP_iff, retP_iff, retM_iff, ofNat_cast, nc, Int.toNat_natCast, decide_eq_true_eq, decide_eq_false_iff_not, IntKind.wrap_i64, Bool.not_eq_true', Bool.not_eq_false', beq_iff_eq, beq_eq_false_iff_ne, AV.bool.injEq, AV.int.injEq, AV.t2.injEq, AV.t3.injEq, AV.own.injEq, List.cons.injEq, Prod.mk.injEq, Row.ints.injEq, RW, Row.nlen, scalar, and_true, true_and, inR]
  simp
theorem l1In_ok (n lo hi : Int) : FC Try.prog 42 [.int .i64 n, .int .i64 lo, .int .i64 hi] (.bool (inR n lo hi)) [] := by
  refine fc_eval () (fun _ => []) (tab_nil _) hT hm Try.func42 rfl (by kernel_rfl) rfl rfl ?_
  intro A S r0 fr0 hA hS hr hfr
  cbv
  subst hA hr hfr
  simp only [alg, obP_iff, condP_iff, retP_iff, retM_iff, ofNat_cast, nc, Int.toNat_natCast, decide_eq_true_eq, decide_eq_false_iff_not, IntKind.wrap_i64, Bool.not_eq_true', Bool.not_eq_false', beq_iff_eq, beq_eq_false_iff_ne, AV.bool.injEq, AV.int.injEq, AV.t2.injEq, AV.t3.injEq, AV.own.injEq, List.cons.injEq, Prod.mk.injEq, Row.ints.injEq, RW, Row.nlen, scalar, and_true, true_and, inR]
  simp

/-- All numbers lie between. -/
def allR (l : List Int) (lo hi : Int) : Bool := l.all fun n => inR n lo hi

theorem allR_drop (l : List Int) (lo hi : Int) (i : Nat) (h : i < l.length) : allR (l.drop i) lo hi = (inR (l.getD i 0) lo hi && allR (l.drop (i + 1)) lo hi) := by
  rw [List.drop_eq_getElem_cons h, List.getD_eq_getElem?_getD, List.getElem?_eq_getElem h]; rfl
theorem allR_end (l : List Int) (lo hi : Int) (i : Nat) (h : l.length ≤ i) : allR (l.drop i) lo hi = true := by rw [List.drop_of_length_le h]; rfl

structure Sp where
  inR : Int → Int → Int → Bool
  allR : List Int → Int → Int → Bool
  good : List Int → Bool
  eqL : List Int → List Int → Bool
  sm : List Int → Prop

def good (l : List Int) : Bool := inR l.length 1 40 && allR l (-500) 500
def sp : Sp := ⟨inR, allR, good, eqL, fun l => l.length ≤ 1048576⟩
def T1 (S : Sp) : List (Nat × (List AV → CR)) := [
  (39, fun args => match args with | [.int .i64 n, .int .i64 lo, .int .i64 hi] => .pure True (.bool (S.inR n lo hi)) [] | _ => .no),
  (42, fun args => match args with | [.int .i64 n, .int .i64 lo, .int .i64 hi] => .pure True (.bool (S.inR n lo hi)) [] | _ => .no)]
theorem T1_ok : TabOK Try.prog (tfind (T1 sp)) := by
  refine tab_cons (fun args => ?_) (tab_cons (fun args => ?_) (tab_nil _))
  · split
    · exact ent_pure fun _ => within_ok _ _ _
    · exact ent_no
  · split
    · exact ent_pure fun _ => l1In_ok _ _ _
    · exact ent_no

theorem isOff_ok (n : Int) : FC Try.prog 38 [.int .i64 n] (.bool (inR n (-500) 500)) [] := by
  refine fc_eval sp T1 T1_ok hT hm Try.func38 rfl (by kernel_rfl) rfl rfl ?_
  intro A S r0 fr0 hA hS hr hfr
  cbv
  subst hA hS hr hfr
  simp only [alg, obP_iff, condP_iff, retP_iff, retM_iff, ofNat_cast, nc, Int.toNat_natCast, decide_eq_true_eq, decide_eq_false_iff_not, IntKind.wrap_i64, Bool.not_eq_true', Bool.not_eq_false', beq_iff_eq, beq_eq_false_iff_ne, AV.bool.injEq, AV.int.injEq, AV.t2.injEq, AV.t3.injEq, AV.own.injEq, List.cons.injEq, Prod.mk.injEq, Row.ints.injEq, RW, Row.nlen, scalar, and_true, true_and, sp]

theorem l1All_ok (l : List Int) (lo hi : Int) (hl : l.length ≤ 1099511627776) : FC Try.prog 57 [.ro (.ints .i64 l), .int .i64 lo, .int .i64 hi] (.bool (allR l lo hi)) [] := by
  refine fc_eval sp T1 T1_ok hT hm Try.func57 rfl (by kernel_rfl) rfl rfl ?_
  intro A S r0 fr0 hA hS hr hfr
  cbv
  obtain ⟨L, hL⟩ : ∃ L : Int, L = l.length := ⟨_, rfl⟩
  refine loop1 (fun (i : Nat) => ⟨fr 21 [(0, .ro (.ints .i64 l)), (1, .int .i64 lo), (2, .int .i64 hi), (9, .ro (.ints .i64 l)), (10, .int .i64 L), (11, .int .i64 i)], [.dead]⟩)
    (fun i => i ≤ l.length ∧ allR l lo hi = allR (l.drop i) lo hi) (fun i => l.length - i) 0 ?_ ?_ ?_
  · subst hA; simp [Wk_iff, fr, undefs, wkT, wkV, wkH, okid, Row.nlen, alg, hL]
  · simp
  · rintro i ⟨h1, h2⟩
    cbv
    try simp only [nc] at *
    subst hA hS hr hfr
    simp only [alg, obP_iff, condP_iff, retP_iff, retM_iff, ofNat_cast, nc, Int.toNat_natCast, decide_eq_true_eq, decide_eq_false_iff_not, IntKind.wrap_i64, Bool.not_eq_true', Bool.not_eq_false', beq_iff_eq, beq_eq_false_iff_ne, AV.bool.injEq, AV.int.injEq, AV.t2.injEq, AV.t3.injEq, AV.own.injEq, List.cons.injEq, Prod.mk.injEq, Row.ints.injEq, RW, Row.nlen, scalar, and_true, true_and, sp]
    refine ⟨fun hc => ⟨by omega, fun hn => ?_, fun hn => ⟨i + 1, ?_, ⟨by omega, ?_⟩, by omega⟩⟩, fun hc => ?_⟩
    · rw [h2, allR_drop _ _ _ _ (by omega), hn]; rfl
    · simp [Wk_iff, fr, undefs, wkT, wkV, wkH, okid, Row.nlen]; try omega
    · rw [h2, allR_drop _ _ _ _ (by omega), hn]; rfl
    · rw [h2, allR_end _ _ _ _ (by omega)]

def T2 (S : Sp) : List (Nat × (List AV → CR)) :=
  (38, fun args => match args with | [.int .i64 n] => .pure True (.bool (S.inR n (-500) 500)) [] | _ => .no) ::
  (57, fun args => match args with | [.ro (.ints .i64 l), .int .i64 lo, .int .i64 hi] => .pure (S.sm l) (.bool (S.allR l lo hi)) [] | _ => .no) :: T1 S
theorem T2_ok : TabOK Try.prog (tfind (T2 sp)) := by
  refine tab_cons (fun args => ?_) (tab_cons (fun args => ?_) T1_ok)
  · split
    · exact ent_pure fun _ => isOff_ok _
    · exact ent_no
  · split
    · exact ent_pure fun h => l1All_ok _ _ _ (Nat.le_trans h (by decide))
    · exact ent_no

theorem gaGood_ok (l : List Int) (hl : l.length ≤ 1048576) : FC Try.prog 37 [.ro (.ints .i64 l)] (.bool (good l)) [] := by
  refine fc_eval sp T2 T2_ok hT hm Try.func37 rfl (by kernel_rfl) rfl rfl ?_
  intro A S r0 fr0 hA hS hr hfr
  cbv
  subst hA hS hr hfr
  simp only [alg, obP_iff, condP_iff, retP_iff, retM_iff, ofNat_cast, nc, Int.toNat_natCast, decide_eq_true_eq, decide_eq_false_iff_not, IntKind.wrap_i64, Bool.not_eq_true', Bool.not_eq_false', beq_iff_eq, beq_eq_false_iff_ne, AV.bool.injEq, AV.int.injEq, AV.t2.injEq, AV.t3.injEq, AV.own.injEq, List.cons.injEq, Prod.mk.injEq, Row.ints.injEq, RW, Row.nlen, scalar, and_true, true_and, sp, good]
  exact ⟨id, fun _ => hl, id⟩

theorem IsTrial_ok (l : List Int) (hl : l.length ≤ 1048576) : FC Try.prog 15 [.ro (.ints .i64 l)] (.bool (good l)) [] := by
  refine fc_eval sp T2 T2_ok hT hm Try.func15 rfl (by kernel_rfl) rfl rfl ?_
  intro A S r0 fr0 hA hS hr hfr
  cbv
  obtain ⟨L, hL⟩ : ∃ L : Int, L = l.length := ⟨_, rfl⟩
  refine loop1 (fun (i : Nat) => ⟨fr 18 [(0, .ro (.ints .i64 l)), (5, .ro (.ints .i64 l)), (6, .int .i64 L), (7, .int .i64 i)], [.dead]⟩)
    (fun i => i ≤ l.length ∧ allR l (-500) 500 = allR (l.drop i) (-500) 500) (fun i => l.length - i) 0 ?_ ?_ ?_
  · subst hA; simp [Wk_iff, fr, undefs, wkT, wkV, wkH, okid, Row.nlen, alg, hL]
  · simp
  · rintro i ⟨h1, h2⟩
    cbv
    try simp only [nc] at *
    subst hA hS hr hfr
    simp only [alg, obP_iff, condP_iff, retP_iff, retM_iff, ofNat_cast, nc, Int.toNat_natCast, decide_eq_true_eq, decide_eq_false_iff_not, IntKind.wrap_i64, Bool.not_eq_true', Bool.not_eq_false', beq_iff_eq, beq_eq_false_iff_ne, AV.bool.injEq, AV.int.injEq, AV.t2.injEq, AV.t3.injEq, AV.own.injEq, List.cons.injEq, Prod.mk.injEq, Row.ints.injEq, RW, Row.nlen, scalar, and_true, true_and, sp, good]
    refine ⟨fun hc => ⟨by omega, fun hn => ?_, fun hn => ⟨i + 1, ?_, ⟨by omega, ?_⟩, by omega⟩⟩, fun hc => ?_⟩
    · rw [h2, allR_drop _ _ _ _ (by omega), hn]; simp
    · simp [Wk_iff, fr, undefs, wkT, wkV, wkH, okid, Row.nlen]; try omega
    · rw [h2, allR_drop _ _ _ _ (by omega), hn]; rfl
    · rw [h2, allR_end _ _ _ _ (by omega)]; simp

def T3 (S : Sp) : List (Nat × (List AV → CR)) :=
  (37, fun args => match args with | [.ro (.ints .i64 l)] => .pure (S.sm l) (.bool (S.good l)) [] | _ => .no) ::
  (15, fun args => match args with | [.ro (.ints .i64 l)] => .pure (S.sm l) (.bool (S.good l)) [] | _ => .no) :: 
  (14, fun args => match args with | [.ro (.ints .i64 l)] => .pure (S.sm l) (.own 0 false) [(3, .ints .i64 l)] | _ => .no) ::
  (16, fun args => match args with | [.ro (.ints .i64 a), .ro (.ints .i64 b)] => .pure (S.sm a) (.bool (S.eqL a b)) [] | _ => .no) :: T2 S
theorem T3_ok : TabOK Try.prog (tfind (T3 sp)) := by
  refine tab_cons (fun args => ?_) (tab_cons (fun args => ?_) (tab_cons (fun args => ?_) (tab_cons (fun args => ?_) T2_ok)))
  · split
    · exact ent_pure fun h => gaGood_ok _ h
    · exact ent_no
  · split
    · exact ent_pure fun h => IsTrial_ok _ h
    · exact ent_no
  · split
    · exact ent_pure fun h => toIntS_ok _ h
    · exact ent_no
  · split
    · exact ent_pure fun h => eqIntS_ok _ _ h
    · exact ent_no

theorem specIsTrial_ok (l : List Int) (hl : l.length ≤ 1048576) : FC Try.prog 13 [.ro (.ints .i64 l)] (.bool (good l)) [] := by
  refine fc_eval sp T3 T3_ok hT hm Try.func13 rfl (by kernel_rfl) rfl rfl ?_
  intro A S r0 fr0 hA hS hr hfr
  cbv
  subst hA hS hr hfr
  simp only [alg, obP_iff, condP_iff, retP_iff, retM_iff, ofNat_cast, nc, Int.toNat_natCast, decide_eq_true_eq, decide_eq_false_iff_not, IntKind.wrap_i64, Bool.not_eq_true', Bool.not_eq_false', beq_iff_eq, beq_eq_false_iff_ne, AV.bool.injEq, AV.int.injEq, AV.t2.injEq, AV.t3.injEq, AV.own.injEq, List.cons.injEq, Prod.mk.injEq, Row.ints.injEq, RW, Row.nlen, scalar, and_true, true_and, sp]
  exact hl

def T4 (S : Sp) : List (Nat × (List AV → CR)) :=
  (13, fun args => match args with | [.ro (.ints .i64 l)] => .pure (S.sm l) (.bool (S.good l)) [] | _ => .no) :: T3 S
theorem T4_ok : TabOK Try.prog (tfind (T4 sp)) := by
  refine tab_cons (fun args => ?_) T3_ok
  · split
    · exact ent_pure fun h => specIsTrial_ok _ h
    · exact ent_no

theorem lawIsTrial (l : List Int) : FC Try.prog 3 [.ro (.ints .i64 l)] (.bool true) [] := by
  refine fc_eval sp T4 T4_ok hT hm Try.func3 rfl (by kernel_rfl) rfl rfl ?_
  intro A S r0 fr0 hA hS hr hfr
  cbv
  subst hA hS hr hfr
  simp only [alg, obP_iff, condP_iff, retP_iff, retM_iff, ofNat_cast, nc, Int.toNat_natCast, decide_eq_true_eq, decide_eq_false_iff_not, IntKind.wrap_i64, Bool.not_eq_true', Bool.not_eq_false', beq_iff_eq, beq_eq_false_iff_ne, AV.bool.injEq, AV.int.injEq, AV.t2.injEq, AV.t3.injEq, AV.own.injEq, List.cons.injEq, Prod.mk.injEq, Row.ints.injEq, RW, Row.nlen, scalar, and_true, true_and, sp, eqL]
  simp; try omega
end Go.Proofs.Ytkhcmniahdfokaa
