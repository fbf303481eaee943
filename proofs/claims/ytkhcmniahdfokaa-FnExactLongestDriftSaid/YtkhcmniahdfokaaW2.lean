/-
  Trials: sums, deviations outside a tolerance, the greatest common divisor.
-/
import Derived.Test.YtkhcmniahdfokaaW1
set_option linter.unusedSimpArgs false
set_option linter.unusedVariables false
namespace Go.Proofs.Ytkhcmniahdfokaa
open Go.Ab

def w64 (n : Int) : Int := IntKind.i64.wrap n
/-- The absolute value, as the machine has it. -/
def absW (n : Int) : Int := if n < w64 (0 - n) then w64 (0 - n) else n
def mostW (a b : Int) : Int := if b < a then a else b

theorem abs_ok (n : Int) : FC Try.prog 53 [.int .i64 n] (.int .i64 (absW n)) [] := by
  refine fc_eval sp T4 T4_ok hT hm Try.func53 rfl (by kernel_rfl) rfl rfl ?_
  intro A S r0 fr0 hA hS hr hfr
  cbv
  (try simp only [nc] at *); subst hA hS hr hfr; simp only [alg, obP_iff, condP_iff, retP_iff, retM_iff, ofNat_cast, nc, Int.toNat_natCast, decide_eq_true_eq, decide_eq_false_iff_not, IntKind.wrap_i64, Bool.not_eq_true', Bool.not_eq_false', beq_iff_eq, beq_eq_false_iff_ne, AV.bool.injEq, AV.int.injEq, AV.t2.injEq, AV.t3.injEq, AV.own.injEq, List.cons.injEq, Prod.mk.injEq, Row.ints.injEq, RW, Row.nlen, scalar, and_true, true_and]
  simp [absW, w64, IntKind.wrap_i64]
theorem l1Most_ok (a b : Int) : FC Try.prog 58 [.int .i64 a, .int .i64 b] (.int .i64 (mostW a b)) [] := by
  refine fc_eval sp T4 T4_ok hT hm Try.func58 rfl (by kernel_rfl) rfl rfl ?_
  intro A S r0 fr0 hA hS hr hfr
  cbv
  (try simp only [nc] at *); subst hA hS hr hfr; simp only [alg, obP_iff, condP_iff, retP_iff, retM_iff, ofNat_cast, nc, Int.toNat_natCast, decide_eq_true_eq, decide_eq_false_iff_not, IntKind.wrap_i64, Bool.not_eq_true', Bool.not_eq_false', beq_iff_eq, beq_eq_false_iff_ne, AV.bool.injEq, AV.int.injEq, AV.t2.injEq, AV.t3.injEq, AV.own.injEq, List.cons.injEq, Prod.mk.injEq, Row.ints.injEq, RW, Row.nlen, scalar, and_true, true_and]
  exact ⟨fun h => by simp [mostW, h], fun h => by simp [mostW, h]⟩

structure Sp2 extends Sp where
  w64 : Int → Int
  absW : Int → Int
  mostW : Int → Int → Int
def sp2 : Sp2 := { sp with w64 := w64, absW := absW, mostW := mostW }
def U1 (S : Sp2) : List (Nat × (List AV → CR)) :=
  (53, fun args => match args with | [.int .i64 n] => .pure (True) (.int .i64 (S.absW n)) [] | _ => .no) ::
  (58, fun args => match args with | [.int .i64 a, .int .i64 b] => .pure (True) (.int .i64 (S.mostW a b)) [] | _ => .no) ::
  T4 S.toSp
set_option maxRecDepth 100000 in
theorem U1_ok : TabOK Try.prog (tfind (U1 sp2)) := by
  refine tab_cons (fun args => ?_) (tab_cons (fun args => ?_) (T4_ok))
  · split
    · exact ent_pure fun _ => abs_ok _
    · exact ent_no
  · split
    · exact ent_pure fun _ => l1Most_ok _ _
    · exact ent_no

theorem l1Abs_ok (n : Int) : FC Try.prog 52 [.int .i64 n] (.int .i64 (absW n)) [] := by
  refine fc_eval sp2 U1 U1_ok hT hm Try.func52 rfl (by kernel_rfl) rfl rfl ?_
  intro A S r0 fr0 hA hS hr hfr
  cbv
  (try simp only [nc] at *); subst hA hS hr hfr; simp only [alg, obP_iff, condP_iff, retP_iff, retM_iff, ofNat_cast, nc, Int.toNat_natCast, decide_eq_true_eq, decide_eq_false_iff_not, IntKind.wrap_i64, Bool.not_eq_true', Bool.not_eq_false', beq_iff_eq, beq_eq_false_iff_ne, AV.bool.injEq, AV.int.injEq, AV.t2.injEq, AV.t3.injEq, AV.own.injEq, List.cons.injEq, Prod.mk.injEq, Row.ints.injEq, RW, Row.nlen, scalar, and_true, true_and, sp2]
  simp only [absW, w64, mostW, IntKind.wrap_i64]
  omega

/-- The indices of the numbers outside. -/
def outF : List Int → Int → Int → List Int
  | [], _, _ => []
  | x :: r, i, m => if m < absW x then i :: outF r (i + 1) m else outF r (i + 1) m
theorem outF_drop (l : List Int) (i : Nat) (q m : Int) (h : i < l.length) : outF (l.drop i) q m = if m < absW (l.getD i 0) then q :: outF (l.drop (i + 1)) (q + 1) m else outF (l.drop (i + 1)) (q + 1) m := by
  rw [List.drop_eq_getElem_cons h, List.getD_eq_getElem?_getD, List.getElem?_eq_getElem h]; rfl

def U2 (S : Sp2) : List (Nat × (List AV → CR)) :=
  (52, fun args => match args with | [.int .i64 n] => .pure (True) (.int .i64 (S.absW n)) [] | _ => .no) ::
  U1 S
set_option maxRecDepth 100000 in
theorem U2_ok : TabOK Try.prog (tfind (U2 sp2)) := by
  refine tab_cons (fun args => ?_) (U1_ok)
  · split
    · exact ent_pure fun _ => l1Abs_ok _
    · exact ent_no

theorem outside_ok (l : List Int) (m : Int) (hl : l.length ≤ 1048576) : FC Try.prog 46 [.ro (.ints .i64 l), .int .i64 m] (.own 0 true) [(3, .ints .i64 (outF l 0 m))] := by
  refine fc_eval sp2 U2 U2_ok hT hm Try.func46 rfl (by kernel_rfl) rfl rfl ?_
  intro A S r0 fr0 hA hS hr hfr
  cbv
  obtain ⟨L, hL⟩ : ∃ L : Int, L = l.length := ⟨_, rfl⟩
  refine loop2 (fun (i : Nat) (out : List Int) => ⟨fr 26 [(0, .ro (.ints .i64 l)), (1, .int .i64 m), (5, .own 1 true), (9, .ro (.ints .i64 l)), (10, .int .i64 L), (11, .int .i64 i)], [.dead, .row 3 (.ints .i64 out)]⟩)
    (fun i out => i ≤ l.length ∧ out.length ≤ i ∧ outF l 0 m = out ++ outF (l.drop i) i m) (fun i _ => l.length - i) 0 [] ?_ ?_ ?_
  · subst hA; simp [Wk_iff, fr, undefs, wkT, wkV, wkH, okid, Row.nlen, alg, hL]
  · simp
  · rintro i out ⟨h1, h2, h3⟩
    cbv
    (try simp only [nc] at *); subst hA hS hr hfr; simp only [alg, obP_iff, condP_iff, retP_iff, retM_iff, ofNat_cast, nc, Int.toNat_natCast, decide_eq_true_eq, decide_eq_false_iff_not, IntKind.wrap_i64, Bool.not_eq_true', Bool.not_eq_false', beq_iff_eq, beq_eq_false_iff_ne, AV.bool.injEq, AV.int.injEq, AV.t2.injEq, AV.t3.injEq, AV.own.injEq, List.cons.injEq, Prod.mk.injEq, Row.ints.injEq, RW, Row.nlen, scalar, and_true, true_and, sp2]
    refine ⟨fun hc => ⟨by omega, fun hn => ⟨by omega, by simp, i + 1, out ++ [(i : Int)], ?_, ⟨by omega, by simp; omega, ?_⟩, by omega⟩, fun hn => ⟨i + 1, out, ?_, ⟨by omega, by omega, ?_⟩, by omega⟩⟩, fun hc => ?_⟩
    · simp [Wk_iff, fr, undefs, wkT, wkV, wkH, okid, Row.nlen]; try omega
    · rw [h3, outF_drop _ _ _ _ (by omega), if_pos hn]; simp
    · simp [Wk_iff, fr, undefs, wkT, wkV, wkH, okid, Row.nlen]; try omega
    · rw [h3, outF_drop _ _ _ _ (by omega), if_neg hn]; simp
    · rw [h3, List.drop_of_length_le (by omega)]; simp [outF]

theorem gaOutside_ok (l : List Int) (m : Int) (hl : l.length ≤ 1048576) : FC Try.prog 43 [.ro (.ints .i64 l), .int .i64 m] (.own 0 true) [(3, .ints .i64 (outF l 0 m))] := by
  refine fc_eval sp2 U2 U2_ok hT hm Try.func43 rfl (by kernel_rfl) rfl rfl ?_
  intro A S r0 fr0 hA hS hr hfr
  cbv
  obtain ⟨L, hL⟩ : ∃ L : Int, L = l.length := ⟨_, rfl⟩
  refine loop2 (fun (i : Nat) (out : List Int) => ⟨fr 25 [(0, .ro (.ints .i64 l)), (1, .int .i64 m), (5, .own 1 true), (8, .ro (.ints .i64 l)), (9, .int .i64 L), (10, .int .i64 i)], [.dead, .row 3 (.ints .i64 out)]⟩)
    (fun i out => i ≤ l.length ∧ out.length ≤ i ∧ outF l 0 m = out ++ outF (l.drop i) i m) (fun i _ => l.length - i) 0 [] ?_ ?_ ?_
  · subst hA; simp [Wk_iff, fr, undefs, wkT, wkV, wkH, okid, Row.nlen, alg, hL]
  · simp
  · rintro i out ⟨h1, h2, h3⟩
    cbv
    (try simp only [nc] at *); subst hA hS hr hfr; simp only [alg, obP_iff, condP_iff, retP_iff, retM_iff, ofNat_cast, nc, Int.toNat_natCast, decide_eq_true_eq, decide_eq_false_iff_not, IntKind.wrap_i64, Bool.not_eq_true', Bool.not_eq_false', beq_iff_eq, beq_eq_false_iff_ne, AV.bool.injEq, AV.int.injEq, AV.t2.injEq, AV.t3.injEq, AV.own.injEq, List.cons.injEq, Prod.mk.injEq, Row.ints.injEq, RW, Row.nlen, scalar, and_true, true_and, sp2]
    refine ⟨fun hc => ⟨by omega, fun hn => ⟨by omega, by simp, i + 1, out ++ [(i : Int)], ?_, ⟨by omega, by simp; omega, ?_⟩, by omega⟩, fun hn => ⟨i + 1, out, ?_, ⟨by omega, by omega, ?_⟩, by omega⟩⟩, fun hc => ?_⟩
    · simp [Wk_iff, fr, undefs, wkT, wkV, wkH, okid, Row.nlen]; try omega
    · rw [h3, outF_drop _ _ _ _ (by omega), if_pos hn]; simp
    · simp [Wk_iff, fr, undefs, wkT, wkV, wkH, okid, Row.nlen]; try omega
    · rw [h3, outF_drop _ _ _ _ (by omega), if_neg hn]; simp
    · rw [h3, List.drop_of_length_le (by omega)]; simp [outF]

/-- The running sums. -/
def sumsF : List Int → Int → Int → List Int
  | [], _, _ => []
  | x :: r, n, a => w64 (n + w64 (x - a)) :: sumsF r (w64 (n + w64 (x - a))) a
theorem sumsF_drop (l : List Int) (i : Nat) (q m : Int) (h : i < l.length) : sumsF (l.drop i) q m = w64 (q + w64 (l.getD i 0 - m)) :: sumsF (l.drop (i + 1)) (w64 (q + w64 (l.getD i 0 - m))) m := by
  rw [List.drop_eq_getElem_cons h, List.getD_eq_getElem?_getD, List.getElem?_eq_getElem h]; rfl

theorem sums_ok (l : List Int) (m : Int) (hl : l.length ≤ 1048576) : FC Try.prog 51 [.ro (.ints .i64 l), .int .i64 m] (.own 0 true) [(3, .ints .i64 (sumsF l 0 m))] := by
  refine fc_eval sp2 U2 U2_ok hT hm Try.func51 rfl (by kernel_rfl) rfl rfl ?_
  intro A S r0 fr0 hA hS hr hfr
  cbv
  obtain ⟨L, hL⟩ : ∃ L : Int, L = l.length := ⟨_, rfl⟩
  refine loop3 (fun (i : Nat) (q : Int) (out : List Int) => ⟨fr 27 [(0, .ro (.ints .i64 l)), (1, .int .i64 m), (5, .own 1 true), (6, .int .i64 q), (10, .ro (.ints .i64 l)), (11, .int .i64 L), (12, .int .i64 i)], [.dead, .row 3 (.ints .i64 out)]⟩)
    (fun i q out => i ≤ l.length ∧ out.length ≤ i ∧ sumsF l 0 m = out ++ sumsF (l.drop i) q m) (fun i _ _ => l.length - i) 0 0 [] ?_ ?_ ?_
  · subst hA; simp [Wk_iff, fr, undefs, wkT, wkV, wkH, okid, Row.nlen, alg, hL]
  · simp
  · rintro i q out ⟨h1, h2, h3⟩
    cbv
    (try simp only [nc] at *); subst hA hS hr hfr; simp only [alg, obP_iff, condP_iff, retP_iff, retM_iff, ofNat_cast, nc, Int.toNat_natCast, decide_eq_true_eq, decide_eq_false_iff_not, IntKind.wrap_i64, Bool.not_eq_true', Bool.not_eq_false', beq_iff_eq, beq_eq_false_iff_ne, AV.bool.injEq, AV.int.injEq, AV.t2.injEq, AV.t3.injEq, AV.own.injEq, List.cons.injEq, Prod.mk.injEq, Row.ints.injEq, RW, Row.nlen, scalar, and_true, true_and, sp2]
    refine ⟨fun hc => ⟨by omega, by omega, by simp, i + 1, w64 (q + w64 (l.getD i 0 - m)), out ++ [w64 (q + w64 (l.getD i 0 - m))], ?_, ⟨by omega, by simp; omega, ?_⟩, by omega⟩, fun hc => ?_⟩
    · simp [Wk_iff, fr, undefs, wkT, wkV, wkH, okid, Row.nlen, w64, IntKind.wrap_i64]; try omega
    · rw [h3, sumsF_drop _ _ _ _ (by omega)]; simp
    · rw [h3, List.drop_of_length_le (by omega)]; simp [sumsF]

theorem gaSums_ok (l : List Int) (m : Int) (hl : l.length ≤ 1048576) : FC Try.prog 50 [.ro (.ints .i64 l), .int .i64 m] (.own 0 true) [(3, .ints .i64 (sumsF l 0 m))] := by
  refine fc_eval sp2 U2 U2_ok hT hm Try.func50 rfl (by kernel_rfl) rfl rfl ?_
  intro A S r0 fr0 hA hS hr hfr
  cbv
  obtain ⟨L, hL⟩ : ∃ L : Int, L = l.length := ⟨_, rfl⟩
  refine loop3 (fun (i : Nat) (q : Int) (out : List Int) => ⟨fr 26 [(0, .ro (.ints .i64 l)), (1, .int .i64 m), (5, .own 1 true), (6, .int .i64 q), (9, .ro (.ints .i64 l)), (10, .int .i64 L), (11, .int .i64 i)], [.dead, .row 3 (.ints .i64 out)]⟩)
    (fun i q out => i ≤ l.length ∧ out.length ≤ i ∧ sumsF l 0 m = out ++ sumsF (l.drop i) q m) (fun i _ _ => l.length - i) 0 0 [] ?_ ?_ ?_
  · subst hA; simp [Wk_iff, fr, undefs, wkT, wkV, wkH, okid, Row.nlen, alg, hL]
  · simp
  · rintro i q out ⟨h1, h2, h3⟩
    cbv
    (try simp only [nc] at *); subst hA hS hr hfr; simp only [alg, obP_iff, condP_iff, retP_iff, retM_iff, ofNat_cast, nc, Int.toNat_natCast, decide_eq_true_eq, decide_eq_false_iff_not, IntKind.wrap_i64, Bool.not_eq_true', Bool.not_eq_false', beq_iff_eq, beq_eq_false_iff_ne, AV.bool.injEq, AV.int.injEq, AV.t2.injEq, AV.t3.injEq, AV.own.injEq, List.cons.injEq, Prod.mk.injEq, Row.ints.injEq, RW, Row.nlen, scalar, and_true, true_and, sp2]
    refine ⟨fun hc => ⟨by omega, by omega, by simp, i + 1, w64 (q + w64 (l.getD i 0 - m)), out ++ [w64 (q + w64 (l.getD i 0 - m))], ?_, ⟨by omega, by simp; omega, ?_⟩, by omega⟩, fun hc => ?_⟩
    · simp [Wk_iff, fr, undefs, wkT, wkV, wkH, okid, Row.nlen, w64, IntKind.wrap_i64]; try omega
    · rw [h3, sumsF_drop _ _ _ _ (by omega)]; simp
    · rw [h3, List.drop_of_length_le (by omega)]; simp [sumsF]

/-- The sum. -/
def sumF : List Int → Int → Int
  | [], n => n
  | x :: r, n => sumF r (w64 (n + x))
theorem sumF_drop (l : List Int) (i : Nat) (q : Int) (h : i < l.length) : sumF (l.drop i) q = sumF (l.drop (i + 1)) (w64 (q + l.getD i 0)) := by
  rw [List.drop_eq_getElem_cons h, List.getD_eq_getElem?_getD, List.getElem?_eq_getElem h]; rfl

theorem sum_ok (l : List Int) (hl : l.length ≤ 1048576) : FC Try.prog 55 [.ro (.ints .i64 l)] (.int .i64 (sumF l 0)) [] := by
  refine fc_eval sp2 U2 U2_ok hT hm Try.func55 rfl (by kernel_rfl) rfl rfl ?_
  intro A S r0 fr0 hA hS hr hfr
  cbv
  obtain ⟨L, hL⟩ : ∃ L : Int, L = l.length := ⟨_, rfl⟩
  refine loop2 (fun (i : Nat) (q : Int) => ⟨fr 17 [(0, .ro (.ints .i64 l)), (3, .int .i64 q), (6, .ro (.ints .i64 l)), (7, .int .i64 L), (8, .int .i64 i)], [.dead]⟩)
    (fun i q => i ≤ l.length ∧ sumF l 0 = sumF (l.drop i) q) (fun i _ => l.length - i) 0 0 ?_ ?_ ?_
  · subst hA; simp [Wk_iff, fr, undefs, wkT, wkV, wkH, okid, Row.nlen, alg, hL]
  · simp
  · rintro i q ⟨h1, h3⟩
    cbv
    (try simp only [nc] at *); subst hA hS hr hfr; simp only [alg, obP_iff, condP_iff, retP_iff, retM_iff, ofNat_cast, nc, Int.toNat_natCast, decide_eq_true_eq, decide_eq_false_iff_not, IntKind.wrap_i64, Bool.not_eq_true', Bool.not_eq_false', beq_iff_eq, beq_eq_false_iff_ne, AV.bool.injEq, AV.int.injEq, AV.t2.injEq, AV.t3.injEq, AV.own.injEq, List.cons.injEq, Prod.mk.injEq, Row.ints.injEq, RW, Row.nlen, scalar, and_true, true_and, sp2]
    refine ⟨fun hc => ⟨by omega, i + 1, w64 (q + l.getD i 0), ?_, ⟨by omega, ?_⟩, by omega⟩, fun hc => ?_⟩
    · simp [Wk_iff, fr, undefs, wkT, wkV, wkH, okid, Row.nlen, w64, IntKind.wrap_i64]; try omega
    · rw [h3, sumF_drop _ _ _ (by omega)]
    · rw [h3, List.drop_of_length_le (by omega)]; simp [sumF]

theorem gaSum_ok (l : List Int) (hl : l.length ≤ 1048576) : FC Try.prog 54 [.ro (.ints .i64 l)] (.int .i64 (sumF l 0)) [] := by
  refine fc_eval sp2 U2 U2_ok hT hm Try.func54 rfl (by kernel_rfl) rfl rfl ?_
  intro A S r0 fr0 hA hS hr hfr
  cbv
  obtain ⟨L, hL⟩ : ∃ L : Int, L = l.length := ⟨_, rfl⟩
  refine loop2 (fun (i : Nat) (q : Int) => ⟨fr 17 [(0, .ro (.ints .i64 l)), (3, .int .i64 q), (6, .ro (.ints .i64 l)), (7, .int .i64 L), (8, .int .i64 i)], [.dead]⟩)
    (fun i q => i ≤ l.length ∧ sumF l 0 = sumF (l.drop i) q) (fun i _ => l.length - i) 0 0 ?_ ?_ ?_
  · subst hA; simp [Wk_iff, fr, undefs, wkT, wkV, wkH, okid, Row.nlen, alg, hL]
  · simp
  · rintro i q ⟨h1, h3⟩
    cbv
    (try simp only [nc] at *); subst hA hS hr hfr; simp only [alg, obP_iff, condP_iff, retP_iff, retM_iff, ofNat_cast, nc, Int.toNat_natCast, decide_eq_true_eq, decide_eq_false_iff_not, IntKind.wrap_i64, Bool.not_eq_true', Bool.not_eq_false', beq_iff_eq, beq_eq_false_iff_ne, AV.bool.injEq, AV.int.injEq, AV.t2.injEq, AV.t3.injEq, AV.own.injEq, List.cons.injEq, Prod.mk.injEq, Row.ints.injEq, RW, Row.nlen, scalar, and_true, true_and, sp2]
    refine ⟨fun hc => ⟨by omega, i + 1, w64 (q + l.getD i 0), ?_, ⟨by omega, ?_⟩, by omega⟩, fun hc => ?_⟩
    · simp [Wk_iff, fr, undefs, wkT, wkV, wkH, okid, Row.nlen, w64, IntKind.wrap_i64]; try omega
    · rw [h3, sumF_drop _ _ _ (by omega)]
    · rw [h3, List.drop_of_length_le (by omega)]; simp [sumF]

theorem gcd_step (a b : Int) (ha : 0 ≤ a) (hb : 0 < b) : Int.gcd b (a.tmod b) = Int.gcd a b := by
  rw [Int.tmod_eq_emod_of_nonneg ha]
  obtain ⟨m, rfl⟩ := Int.eq_ofNat_of_zero_le ha
  obtain ⟨n, rfl⟩ := Int.eq_ofNat_of_zero_le (Int.le_of_lt hb)
  rw [← Int.natCast_emod, Int.gcd_natCast_natCast, Int.gcd_natCast_natCast, Nat.gcd_comm, ← Nat.gcd_rec, Nat.gcd_comm]

theorem gcd_ok (a b : Int) (ha : 0 ≤ a) (hb : 0 ≤ b) : FC Try.prog 56 [.int .i64 a, .int .i64 b] (.int .i64 (Int.gcd a b)) [] := by
  refine fc_eval sp2 U2 U2_ok hT hm Try.func56 rfl (by kernel_rfl) rfl rfl ?_
  intro A S r0 fr0 hA hS hr hfr
  cbv
  refine loop2 (fun (x y : Int) => ⟨fr 12 [(0, .int .i64 x), (1, .int .i64 y)], [.dead]⟩)
    (fun x y => 0 ≤ x ∧ 0 ≤ y ∧ Int.gcd x y = Int.gcd a b) (fun _ y => y.toNat) a b ?_ ?_ ?_
  · subst hA; simp [Wk_iff, fr, undefs, wkT, wkV, wkH, okid, Row.nlen, alg]
  · exact ⟨ha, hb, rfl⟩
  · rintro x y ⟨h1, h2, h3⟩
    cbv
    (try simp only [nc] at *); subst hA hS hr hfr; simp only [alg, obP_iff, condP_iff, retP_iff, retM_iff, ofNat_cast, nc, Int.toNat_natCast, decide_eq_true_eq, decide_eq_false_iff_not, IntKind.wrap_i64, Bool.not_eq_true', Bool.not_eq_false', beq_iff_eq, beq_eq_false_iff_ne, AV.bool.injEq, AV.int.injEq, AV.t2.injEq, AV.t3.injEq, AV.own.injEq, List.cons.injEq, Prod.mk.injEq, Row.ints.injEq, RW, Row.nlen, scalar, and_true, true_and, sp2]
    refine ⟨fun hc => ⟨⟨by kernel_rfl⟩, by omega, y, x.tmod y, ?_, ⟨h2, Int.tmod_nonneg _ h1, (gcd_step x y h1 hc).trans h3⟩, ?_⟩, fun hc => ?_⟩
    · simp [Wk_iff, fr, undefs, wkT, wkV, wkH, okid, Row.nlen]
    · have := Int.tmod_lt_of_pos x hc
      omega
    · have : y = 0 := by omega
      subst this
      rw [← h3, Int.gcd_zero_right]; omega
end Go.Proofs.Ytkhcmniahdfokaa
